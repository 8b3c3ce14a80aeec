/-
  The plain side of commands: they are read as they were put, and bytes that are read are put again as they were. No condition.
  The plain side of audit's laws: the order of where calls took effect; the example; the place of a call is one. No condition.
  The walks of what is found of views: right, same, the two questions. Conditions: views and entries whose slices read as lists.
  The walk of what is found of two views. Conditions: views whose entries read as lists, not more than memory bears.
  The walks of slices.Equal at replies and at findings: whether two lists are the same. Conditions: the slices read as lists, not longer than memory bears.
  The walk of audit.Look: what is found of views. Conditions: views whose entries read as lists, not more than memory bears.
-/
import Derived.Test.YtfjpenbahoeklaaGreatDoorHMachW
import Derived.Test.YtfjpenbahoeklaaGreatDoorHOpen
import Derived.Test.YtfjpenbahoeklaaGreatDoorHSorted
import Derived.Test.YtfjpenbahoeklaaGreatDoorHPut
import Derived.Test.YtfjpenbahoeklaaGreatDoorHForest3
import Derived.Deep.DeepCutAuto
import Derived.Deep.CutBlock
import Derived.Test.YtfjpenbahoeklaaGreatDoorHAudL
import Derived.Deep.MidRow
namespace Go.Proofs.YtfjpenbahoeklaaGreatDoor
open Go.RowKit

theorem scEnd_zero {l : List UInt8} {at_ : Nat} {err : Int} (h : scEnd l at_ err = 0) : err = 0 ∧ l.length ≤ at_ := by
  unfold scEnd at h
  by_cases h1 : err = 0 ∧ at_ < l.length
  · rw [if_pos h1] at h; cases h
  · rw [if_neg h1] at h; exact ⟨h, by omega⟩
theorem scEnd_all (l : List UInt8) : scEnd l l.length 0 = 0 := by unfold scEnd; rw [if_neg (by omega)]
theorem scText_decM {most : Nat} {l tx : List UInt8} {at_ k : Nat} {err : Int} (h : scText most l at_ err = (tx, k, 0)) : l.drop at_ = digits tx.length ++ tx ++ l.drop k ∧ k = at_ + (digits tx.length).length + tx.length := by
  rw [scText_eq] at h
  generalize hq : scNum l at_ err = q at h
  obtain ⟨m, k1, e1⟩ := q
  simp only at h
  by_cases h1 : e1 ≠ 0
  · rw [if_pos h1] at h; simp at h; exact absurd h.2.2 h1
  · rw [if_neg h1] at h
    obtain rfl : e1 = 0 := by omega
    by_cases h2 : most < m
    · rw [if_pos h2] at h; simp at h
    · rw [if_neg h2] at h
      by_cases h3 : l.length - k1 < m
      · rw [if_pos h3] at h; simp at h
      · rw [if_neg h3] at h
        simp only [Prod.mk.injEq, and_true] at h
        obtain ⟨rfl, rfl⟩ := h
        have hd := scNum_dec hq
        have hl : ((l.drop k1).take m).length = m := by rw [List.length_take, List.length_drop]; omega
        rw [hl, List.append_assoc, ← List.drop_drop, List.take_append_drop]
        exact ⟨hd.1, by omega⟩
theorem votL_enc (l r : List UInt8) : ∀ (vs acc : List Int) (at_ : Nat), (∀ v ∈ vs, 0 ≤ v ∧ v < 9223372036854775808) → l.drop at_ = encN vs ++ r →
    votL l vs.length acc at_ 0 = (acc ++ vs, at_ + (encN vs).length, 0) := by
  intro vs
  induction vs with
  | nil => intro acc at_ _ _; simp [votL, encN]
  | cons v vs ih =>
    intro acc at_ hv h
    have hv0 := hv v (by simp)
    have he : encN (v :: vs) = digits v.toNat ++ encN vs := by simp [encN]
    rw [he, List.append_assoc] at h
    have h1 := scNum_enc h (by omega)
    have h2 := drop_on h
    have e : ((v.toNat : Nat) : Int) = v := by omega
    rw [List.length_cons, votL, if_pos rfl, h1]
    dsimp only
    rw [ih (acc ++ [((v.toNat : Nat) : Int)]) _ (fun x hx => hv x (by simp [hx])) h2, he, e]
    simp only [List.append_assoc, List.cons_append, List.nil_append, List.length_append, Nat.add_assoc]
theorem votL_len (l : List UInt8) : ∀ (n : Nat) (acc : List Int) (at_ : Nat) (err : Int), (votL l n acc at_ err).2.2 = 0 → (votL l n acc at_ err).1.length = acc.length + n := by
  intro n
  induction n with
  | zero => intro acc at_ err _; rfl
  | succ n ih =>
    intro acc at_ err h
    rw [votL] at h ⊢
    by_cases h1 : err = 0
    · rw [if_pos h1] at h ⊢
      rw [ih _ _ _ h]
      simp only [List.length_append, List.length_cons, List.length_nil]; omega
    · rw [if_neg h1] at h; exact absurd h h1
theorem votL_err (l : List UInt8) : ∀ (n : Nat) (acc : List Int) (at_ : Nat) (err : Int), (votL l n acc at_ err).2.2 = 0 → err = 0 := by
  intro n
  induction n with
  | zero => intro acc at_ err h; exact h
  | succ n _ =>
    intro acc at_ err h
    rw [votL] at h
    by_cases h1 : err = 0
    · exact h1
    · rw [if_neg h1] at h; exact h
theorem votL_dec (l : List UInt8) : ∀ (n : Nat) (acc : List Int) (at_ : Nat) (err : Int), (votL l n acc at_ err).2.2 = 0 →
    ∃ vs, (votL l n acc at_ err).1 = acc ++ vs ∧ l.drop at_ = encN vs ++ l.drop (votL l n acc at_ err).2.1 := by
  intro n
  induction n with
  | zero => intro acc at_ err _; exact ⟨[], by simp [votL], by simp [votL, encN]⟩
  | succ n ih =>
    intro acc at_ err h
    have he := votL_err l _ _ _ _ h
    subst he
    rw [votL, if_pos rfl] at h ⊢
    obtain ⟨vs, h1, h2⟩ := ih _ _ _ h
    have he2 := votL_err l _ _ _ _ h
    have hd := scNum_dec (show scNum l at_ 0 = ((scNum l at_ 0).1, (scNum l at_ 0).2.1, 0) from Prod.ext rfl (Prod.ext rfl he2))
    refine ⟨((scNum l at_ 0).1 : Int) :: vs, by rw [h1]; simp, ?_⟩
    rw [hd.1, h2]
    simp [encN]

/-- Commands are read as they were put. -/
theorem cm_back {c : Cm} (h : c.ok = true) : cmGet (cmEnc c) = some c := by
  obtain ⟨hf, hs8, hsp, hvo⟩ := Cm.ok_parts h
  have hf' := (fieldsB_iff c).1 hf
  obtain ⟨⟨hk0, hk5⟩, hn, ha0, ha1, hks, hkv⟩ := hf'
  have fin : ∀ l : List UInt8, cmEnc c = l → cmRead l = (c, l.length, 0) → cmGet (cmEnc c) = some c := fun l e hr => by
    rw [e]
    unfold cmGet cmFin
    rw [hr, if_pos ⟨scEnd_all l, h⟩]
  obtain ⟨ki, se, sq, at_, sp, vo⟩ := c
  dsimp only at *
  have hsp0 : ki ≠ 2 → sp = [] := fun hk => List.length_eq_zero_iff.1 (by
    have : ¬ 0 < sp.length := fun hh => hk (hks.2 hh)
    omega)
  have hvo0 : ki ≠ 5 → vo = [] := fun hk => List.length_eq_zero_iff.1 (by
    have : ¬ 0 < vo.length := fun hh => hk (hkv.2 hh)
    omega)
  by_cases h2 : ki = 2
  · subst h2
    obtain rfl : vo = [] := hvo0 (by omega)
    obtain rfl : at_ = 0 := by
      have : atM 2 = 0 := rfl
      omega
    obtain ⟨hse0, hse1, hsq0, hsq1⟩ : 1 ≤ se ∧ se ≤ 1099511627776 ∧ 1 ≤ sq ∧ sq ≤ 1099511627776 := by
      rcases hn with hn | hn
      · exact hn.2
      · exact absurd rfl hn.1
    refine fin _ rfl ?_
    have hpl : (putEnc sp).length ≤ 4096 := by
      have h1 := encL_len sp (List.all_eq_true.1 hsp)
      have h2 := (digits_len (n := sp.length) (by omega)).2
      rw [putEnc, List.length_append]; omega
    have hl : (cmEnc ⟨2, se, sq, 0, sp, []⟩).drop 0 = digits 2 ++ (digits se.toNat ++ (digits sq.toNat ++ (digits (putEnc sp).length ++ putEnc sp ++ []))) := by simp [cmEnc]
    generalize cmEnc ⟨2, se, sq, 0, sp, []⟩ = l at *
    have q0 := scNum_enc hl (by omega)
    have l1 := drop_on hl
    have q1 := scNum_enc l1 (by omega)
    have l2 := drop_on l1
    have q2 := scNum_enc l2 (by omega)
    have l3 := drop_on l2
    have q3 := scText_encM l3 hpl (by omega)
    have hlen : l.length = (digits 2).length + ((digits se.toNat).length + ((digits sq.toNat).length + ((digits (putEnc sp).length).length + (putEnc sp).length))) := by
      have := congrArg List.length hl
      simpa using this
    have hgp := get_put sp hsp (by omega)
    unfold cmRead
    rw [q0]
    dsimp only
    rw [if_pos rfl]
    unfold cmRd2
    rw [q1]
    dsimp only
    rw [q2]
    dsimp only
    rw [q3]
    dsimp only
    rw [hgp]
    dsimp only
    have e1 : ((se.toNat : Nat) : Int) = se := by omega
    have e2 : ((sq.toNat : Nat) : Int) = sq := by omega
    rw [e1, e2, hlen]
    simp only [Prod.mk.injEq, true_and, and_true]
    omega
  obtain rfl : sp = [] := hsp0 h2
  obtain ⟨rfl, rfl⟩ : se = 0 ∧ sq = 0 := by
    rcases hn with hn | hn
    · exact absurd hn.1 h2
    · exact hn.2
  by_cases h5 : ki = 5
  · subst h5
    obtain rfl : at_ = 0 := by
      have : atM 5 = 0 := rfl
      omega
    have hok := hvo rfl
    have hvl := okV_len hok
    refine fin _ rfl ?_
    have hl : (cmEnc ⟨5, 0, 0, 0, [], vo⟩).drop 0 = digits 5 ++ (digits vo.length ++ (encN vo ++ [])) := by simp [cmEnc]
    generalize cmEnc ⟨5, 0, 0, 0, [], vo⟩ = l at *
    have q0 := scNum_enc hl (by omega)
    have l1 := drop_on hl
    have q1 := scNum_enc l1 (by omega)
    have l2 := drop_on l1
    have q2 := votL_enc l [] vo [] _ (fun v hv => by have := okV_mem hok hv; omega) l2
    have hlen : l.length = (digits 5).length + ((digits vo.length).length + (encN vo).length) := by
      have := congrArg List.length hl
      simpa using this
    unfold cmRead
    rw [q0]
    dsimp only
    rw [if_neg (by omega), if_neg (by omega), if_neg (by omega), if_pos rfl, q1]
    dsimp only
    rw [q2]
    dsimp only
    rw [hlen]
    simp only [Prod.mk.injEq, List.nil_append, true_and, and_true]
    omega
  obtain rfl : vo = [] := hvo0 h5
  by_cases h34 : ki = 3 ∨ ki = 4
  · have hat : at_ < 9223372036854775808 := by
      have : atM ki ≤ 1099511627777 := by unfold atM; rcases h34 with rfl | rfl <;> simp
      omega
    have e1 : ((at_.toNat : Nat) : Int) = at_ := by omega
    refine fin _ rfl ?_
    have hl : (cmEnc ⟨ki, 0, 0, at_, [], []⟩).drop 0 = digits ki.toNat ++ (digits at_.toNat ++ []) := by
      rcases h34 with rfl | rfl <;> simp [cmEnc]
    generalize cmEnc ⟨ki, 0, 0, at_, [], []⟩ = l at *
    have q0 := scNum_enc hl (by omega)
    have l1 := drop_on hl
    have q1 := scNum_enc l1 (by omega)
    have hlen : l.length = (digits ki.toNat).length + (digits at_.toNat).length := by
      have := congrArg List.length hl
      simpa using this
    unfold cmRead
    rw [q0]
    dsimp only
    rw [q1]
    dsimp only
    rcases h34 with rfl | rfl
    · rw [if_neg (by omega), if_pos (show Int.toNat 3 = 3 from rfl), e1, hlen]
      simp only [Prod.mk.injEq, true_and, and_true]
      omega
    · rw [if_neg (by omega), if_neg (by omega), if_pos (show Int.toNat 4 = 4 from rfl), e1, hlen]
      simp only [Prod.mk.injEq, true_and, and_true]
      omega
  · obtain rfl : at_ = 0 := by
      have : atM ki = 0 := by unfold atM; rw [if_neg (by omega), if_neg (by omega)]
      omega
    refine fin _ rfl ?_
    have hl : (cmEnc ⟨ki, 0, 0, 0, [], []⟩).drop 0 = digits ki.toNat ++ [] := by
      unfold cmEnc
      dsimp only
      rw [if_neg h2, if_neg h34, if_neg h5, List.drop_zero]
    generalize cmEnc ⟨ki, 0, 0, 0, [], []⟩ = l at *
    have q0 := scNum_enc hl (by omega)
    have hlen : l.length = (digits ki.toNat).length := by
      have := congrArg List.length hl
      simpa using this
    have e1 : ((ki.toNat : Nat) : Int) = ki := by omega
    unfold cmRead
    rw [q0]
    dsimp only
    rw [if_neg (by omega), if_neg (by omega), if_neg (by omega), if_neg (by omega), e1, hlen]
    simp only [Prod.mk.injEq, true_and, and_true]
    omega
/-- Bytes that are read are put again as they were. -/
theorem cm_form {l : List UInt8} {c : Cm} (h : cmGet l = some c) : cmEnc c = l := by
  have hok := cmGet_ok h
  unfold cmGet cmFin at h
  by_cases h1 : scEnd l (cmRead l).2.1 (cmRead l).2.2 = 0 ∧ (cmRead l).1.ok = true
  case neg => rw [if_neg h1] at h; cases h
  rw [if_pos h1] at h
  have hc := Option.some.inj h
  obtain ⟨he, _⟩ := h1
  obtain ⟨hz, hle⟩ := scEnd_zero he
  clear h
  have hend : l.drop (cmRead l).2.1 = [] := List.drop_eq_nil_of_le hle
  obtain ⟨hf, hs8, hsp, hvo⟩ := Cm.ok_parts hok
  have hf' := (fieldsB_iff c).1 hf
  unfold cmRead at hc hz hend
  generalize hq0 : scNum l 0 0 = q0 at *
  obtain ⟨m0, a0, e0⟩ := q0
  dsimp only at hc hz hend
  have tl : ∀ (x : Nat), ((x : Nat) : Int).toNat = x := fun x => Int.toNat_natCast x
  by_cases h2 : m0 = 2
  · subst h2
    rw [if_pos rfl] at hc hz hend
    unfold cmRd2 at hc hz hend
    dsimp only at hc hz hend
    generalize hq3 : scText 4096 l (scNum l (scNum l a0 e0).2.1 (scNum l a0 e0).2.2).2.1 (scNum l (scNum l a0 e0).2.1 (scNum l a0 e0).2.2).2.2 = q3 at *
    obtain ⟨tx, a3, e3⟩ := q3
    dsimp only at hc hz hend
    subst hz
    have d3 := scText_decM hq3
    have z2 := (scText_err (by rw [hq3])).1
    generalize hq1 : scNum l a0 e0 = q1 at *
    obtain ⟨m1, a1, e1⟩ := q1
    dsimp only at *
    generalize hq2 : scNum l a1 e1 = q2 at *
    obtain ⟨m2, a2, e2⟩ := q2
    dsimp only at *
    obtain rfl : e2 = 0 := (scNum_err z2).1
    have d2 := scNum_dec hq2
    obtain rfl : e1 = 0 := (scNum_err (by rw [hq2])).1
    have d1 := scNum_dec hq1
    obtain rfl : e0 = 0 := (scNum_err (by rw [hq1])).1
    have d0 := scNum_dec hq0
    subst hc
    dsimp only at *
    have hpe : putEnc (getAns tx).1 = tx := by
      rcases put_get tx with ⟨sps, h3, _, h5⟩ | h3
      · rw [h3]; exact h5
      · exfalso
        rw [h3] at hf'
        have := hf'.2.2.2.2.1.1 rfl
        simp at this
    unfold cmEnc
    dsimp only
    rw [if_pos rfl, tl, tl, hpe]
    rw [List.drop_zero, d1.1, d2.1, d3.1, hend] at d0
    rw [d0.1]
    simp
  have hm2 : ¬ (m0 : Int) = 2 := by omega
  rw [if_neg h2] at hc hz hend
  by_cases h3 : m0 = 3
  · subst h3
    rw [if_pos rfl] at hc hz hend
    generalize hq1 : scNum l a0 e0 = q1 at *
    obtain ⟨m1, a1, e1⟩ := q1
    dsimp only at *
    subst hz
    have d1 := scNum_dec hq1
    obtain rfl : e0 = 0 := (scNum_err (by rw [hq1])).1
    have d0 := scNum_dec hq0
    subst hc
    unfold cmEnc
    dsimp only
    rw [if_neg (by omega), if_pos (.inl rfl), tl]
    rw [List.drop_zero, d1.1, hend] at d0
    rw [d0.1]
    simp
  rw [if_neg h3] at hc hz hend
  by_cases h4 : m0 = 4
  · subst h4
    rw [if_pos rfl] at hc hz hend
    generalize hq1 : scNum l a0 e0 = q1 at *
    obtain ⟨m1, a1, e1⟩ := q1
    dsimp only at *
    subst hz
    have d1 := scNum_dec hq1
    obtain rfl : e0 = 0 := (scNum_err (by rw [hq1])).1
    have d0 := scNum_dec hq0
    subst hc
    unfold cmEnc
    dsimp only
    rw [if_neg (by omega), if_pos (.inr rfl), tl]
    rw [List.drop_zero, d1.1, hend] at d0
    rw [d0.1]
    simp
  rw [if_neg h4] at hc hz hend
  by_cases h5 : m0 = 5
  · subst h5
    rw [if_pos rfl] at hc hz hend
    generalize hq1 : scNum l a0 e0 = q1 at *
    obtain ⟨m1, a1, e1⟩ := q1
    dsimp only at *
    obtain rfl : e1 = 0 := votL_err l _ _ _ _ hz
    have d1 := scNum_dec hq1
    obtain rfl : e0 = 0 := (scNum_err (by rw [hq1])).1
    have d0 := scNum_dec hq0
    obtain ⟨vs, v1, v2⟩ := votL_dec l _ _ _ _ hz
    have v3 := votL_len l _ _ _ _ hz
    rw [List.nil_append] at v1
    rw [v1] at hc v3
    rw [List.length_nil, Nat.zero_add] at v3
    subst hc
    unfold cmEnc
    dsimp only
    rw [if_neg (by omega), if_neg (by omega), if_pos rfl, v3]
    rw [List.drop_zero, d1.1, v2, hend] at d0
    rw [d0.1]
    simp
  · rw [if_neg h5] at hc hz hend
    dsimp only at hc hz hend
    subst hz
    have d0 := scNum_dec hq0
    subst hc
    unfold cmEnc
    dsimp only
    rw [if_neg (by omega), if_neg (by omega), if_neg (by omega), tl]
    rw [List.drop_zero, hend] at d0
    rw [d0.1]
end Go.Proofs.YtfjpenbahoeklaaGreatDoor
namespace Go.Proofs.YtfjpenbahoeklaaGreatDoor
open Go.RowKit

theorem hitP_self {c : Cl} {e : En} (hk : c.c.ki = 2) (hok : c.c.ok = true) (he : cmEnc c.c = e.da) : hitP c e = true :=
  (hitP_some (x := c.c) (by rw [← he]; exact cm_back hok)).2 ⟨hk, rfl, rfl⟩
theorem firstL_le {c : Cl} : ∀ (log : List En) (i k : Nat) (hk : k < log.length), hitP c (log[k]) = true → 0 ≤ firstL c log i ∧ firstL c log i ≤ (i : Int) + k + 1 := by
  intro log
  induction log with
  | nil => intro i k hk _; simp at hk
  | cons e log ih =>
    intro i k hk h
    rw [firstL]
    by_cases h1 : hitP c e = true
    · rw [if_pos h1]; omega
    · rw [if_neg h1]
      cases k with
      | zero => exact absurd h h1
      | succ k =>
        have := ih (i + 1) k (by simpa using hk) h
        omega
/-- Where a call that is explained took effect first: not behind its place. -/
theorem expl_first {vo : List Int} {log : List En} {c : Cl} (h : ExplP vo log (replP vo log) c) : 0 ≤ firstP log c ∧ firstP log c ≤ c.ix ∧ c.ix ≤ log.length := by
  have hl := replP_len vo log
  unfold ExplP at h
  by_cases h0 : c.c.ki = 0
  · rw [if_pos h0] at h
    unfold firstP
    rw [if_neg (by omega)]
    omega
  · rw [if_neg h0] at h
    obtain ⟨h1, h2, h3, h4, e, x, h5, h6, h7, h8⟩ := h
    unfold firstP
    by_cases hk : c.c.ki = 2
    · rw [if_pos hk]
      obtain ⟨h9, h10⟩ := List.getElem?_eq_some_iff.1 h5
      have := firstL_le (c := c) log 0 (c.ix.toNat - 1) h9 (by rw [h10]; exact hitP_self hk h4 h7)
      omega
    · rw [if_neg hk]; omega
theorem lin_right {vo : List Int} {log : List En} {l : List Cl} (h : LinP vo log l (-1)) {c : Cl} (hc : c ∈ l) (he : c.en ≠ 0) : ¬ c.en < c.be ∧ ExplP vo log (replP vo log) c ∧ BehP log l c := by
  rcases h with ⟨_, h⟩ | ⟨k, _, h, _⟩
  · have := h c hc
    unfold WrongP at this
    refine ⟨fun h1 => this ⟨he, .inl h1⟩, Classical.byContradiction fun h1 => this ⟨he, .inr (.inl h1)⟩, Classical.byContradiction fun h1 => this ⟨he, .inr (.inr h1)⟩⟩
  · omega
def ordK (log : List En) (c : Cl) : Int := 2 * firstP log c + (if c.c.ki = 0 then 1 else 0)
/-- Calls that ended stand in the order of where they took effect. -/
theorem lin_order {vo : List Int} {log : List En} {l : List Cl} (h : LinP vo log l (-1)) {a b : Cl} (ha : a ∈ l) (hb : b ∈ l) (hae : a.en ≠ 0) (hbe : b.en ≠ 0) (hlt : a.en < b.be) : ¬ (ordK log b < ordK log a) ∧ ¬ (ordK log a = ordK log b ∧ a.c.ki ≠ 0) := by
  obtain ⟨_, ea, _⟩ := lin_right h ha hae
  obtain ⟨_, eb, bb⟩ := lin_right h hb hbe
  have fa := expl_first ea
  have hbb := bb a ha hae hlt
  unfold ordK
  by_cases h0 : a.c.ki = 0 <;> by_cases h1 : b.c.ki = 0
  · rw [if_pos h0, if_pos h1]; constructor <;> omega
  · rw [if_pos h0, if_neg h1]; constructor <;> omega
  · rw [if_neg h0, if_pos h1]; constructor <;> omega
  · rw [if_neg h0, if_neg h1]; constructor <;> omega
/-- The place of the first call that can't be is one. -/
theorem linP_one {vo : List Int} {log : List En} {l : List Cl} {y z : Int} (h : LinP vo log l y) (k : LinP vo log l z) : y = z := by
  rcases h with ⟨h1, h2⟩ | ⟨i, hi, h1, h2, h3⟩ <;> rcases k with ⟨k1, k2⟩ | ⟨j, hj, k1, k2, k3⟩
  · rw [h1, k1]
  · exact absurd k2 (h2 _ (List.getElem_mem hj))
  · exact absurd h2 (k2 _ (List.getElem_mem hi))
  · by_cases e : i < j
    · exact absurd h2 (k3 i e)
    · by_cases e2 : j < i
      · exact absurd k2 (h3 j e2)
      · omega
/-! ### The example -/
def exE : List En := [⟨1, 1, [1]⟩]
def exC (s : Int) : Cl := ⟨0, ⟨1, 0, 0, 0, [], []⟩, 0, 2, 3, 1, ⟨0, s, 0, 0, 0, 0, 0, 0⟩, []⟩
theorem ex_enc : cmEnc ⟨1, 0, 0, 0, [], []⟩ = [1] := by
  have : dhi (1 / 128) = [] := by rw [show 1 / 128 = 0 from rfl, dhi_zero]
  simp [cmEnc, digits, this]
theorem ex_get : cmGet [1] = some ⟨1, 0, 0, 0, [], []⟩ := by
  rw [← ex_enc]; exact cm_back (by decide)
theorem ex_apply : applyM (Ma.new [0]) ⟨1, 1, [1]⟩ = (⟨[], [⟨1, 0, 1, Rp.zero⟩], 1, 1, [0]⟩, ⟨0, 1, 0, 0, 0, 0, 0, 0⟩, 0) := by
  rw [applyM_some (by unfold badE Ma.new; decide) ex_get]
  rfl
theorem ex_replies : replP [0] exE = [⟨0, 1, 0, 0, 0, 0, 0, 0⟩] := by
  unfold replP
  rw [if_pos (by decide)]
  unfold runF exE
  rw [List.foldl_cons, List.foldl_nil, stepR_go rfl (by rw [ex_apply]), ex_apply]
  rfl
theorem ex_one : LinP [0] exE [exC 1] (-1) := by
  refine .inl ⟨rfl, fun c hc => ?_⟩
  obtain rfl := List.mem_singleton.1 hc
  rintro ⟨_, h | h | h⟩
  · exact absurd h (by decide)
  · apply h
    unfold ExplP
    rw [if_neg (by decide), ex_replies]
    exact ⟨by decide, by decide, rfl, by decide, _, _, rfl, rfl, ex_enc, rfl⟩
  · apply h
    intro b hb _ h2
    obtain rfl := List.mem_singleton.1 hb
    exact absurd h2 (by decide)
theorem ex_two : LinP [0] exE [exC 2] 0 := by
  refine .inr ⟨0, by decide, rfl, ⟨by decide, .inr (.inl fun h => ?_)⟩, fun j hj => absurd hj (by omega)⟩
  unfold ExplP at h
  rw [if_neg (by decide), ex_replies] at h
  obtain ⟨_, _, _, _, e, x, _, h6, _, h8⟩ := h
  have h6 : some (⟨0, 1, 0, 0, 0, 0, 0, 0⟩ : Rp) = some x := h6
  cases h6
  exact absurd (congrArg Rp.ss h8) (by decide)
end Go.Proofs.YtfjpenbahoeklaaGreatDoor
namespace Go.Proofs.YtfjpenbahoeklaaGreatDoor
open Go Go.RowKit

set_option maxRecDepth 100000 in
set_option maxHeartbeats 1000000 in
theorem right_any (v : VwV) (w : World) (hl : v.es.length = v.en) (hn : v.en ≤ 140737488355328) :
    Calls Tryz.prog 37 #[v.val] w fun e w' => e = .returned (.bool (rightB v.vw)) ∧ Below w.heap.size w w' := by
  have HB : Hid (∀ o, Below w.heap.size w (w.alloc o)) := Lib.hid (fun o => (Below.refl _ _).alloc (Nat.le_refl _) o)
  obtain ⟨q, hq, hqi⟩ : ∃ q : Bool, rightB v.vw = q ∧ (q = true ↔ 0 ≤ v.ix ∧ v.ix ≤ 1099511627776 ∧ v.ix ≤ v.co ∧ v.co ≤ 1099511627776 ∧ v.co - v.ix ≤ v.en) :=
    ⟨_, rfl, by unfold rightB VwV.vw; simp only [Bool.and_eq_true, decide_eq_true_eq, List.length_map, hl, and_assoc]⟩
  rw [hq]
  obtain ⟨id, ro, le, ht, hv, co, ix, te, vA, vn, vc, eA, en, ec, es⟩ := v
  dsimp only [VwV.val] at *
  have HQ := Lib.hid hqi
  clear hq hqi hl
  by_cases h1 : 0 ≤ ix
  · by_cases h2 : ix ≤ 1099511627776
    · by_cases h3 : ix ≤ co
      · by_cases h4 : co ≤ 1099511627776
        · by_cases h5 : co - ix ≤ en
          · obtain rfl : q = true := HQ.out.2 ⟨h1, h2, h3, h4, h5⟩
            go_enter Tryz.func37, Tryz.ntmps37
            go_wp2_with fail
            go_ret
            exact ⟨rfl, HB.out _⟩
          · obtain rfl : q = false := by
              cases q
              · rfl
              · have := HQ.out.1 rfl; omega
            go_enter Tryz.func37, Tryz.ntmps37
            go_wp2_with fail
            go_ret
            exact ⟨rfl, HB.out _⟩
        · obtain rfl : q = false := by
            cases q
            · rfl
            · have := HQ.out.1 rfl; omega
          go_enter Tryz.func37, Tryz.ntmps37
          go_wp2_with fail
          go_ret
          exact ⟨rfl, HB.out _⟩
      · obtain rfl : q = false := by
          cases q
          · rfl
          · have := HQ.out.1 rfl; omega
        go_enter Tryz.func37, Tryz.ntmps37
        go_wp2_with fail
        go_ret
        exact ⟨rfl, HB.out _⟩
    · obtain rfl : q = false := by
        cases q
        · rfl
        · have := HQ.out.1 rfl; omega
      go_enter Tryz.func37, Tryz.ntmps37
      go_wp2_with fail
      go_ret
      exact ⟨rfl, HB.out _⟩
  · obtain rfl : q = false := by
      cases q
      · rfl
      · have := HQ.out.1 rfl; omega
    go_enter Tryz.func37, Tryz.ntmps37
    go_wp2_with fail
    go_ret
    exact ⟨rfl, HB.out _⟩

set_option maxRecDepth 100000 in
set_option maxHeartbeats 1000000 in
theorem same_any (a b : EnV) (B : Nat) (w : World) (hB : B ≤ w.heap.size) (ha : RdB w B a.A a.n a.da) (hb : RdB w B b.A b.n b.da) :
    Calls Tryz.prog 97 #[a.val, b.val] w fun e w' => e = .returned (.bool (sameE a.en b.en)) ∧ Below w.heap.size w w' := by
  have HB : Hid (∀ o p, Below w.heap.size w ((w.alloc o).alloc p)) := Lib.hid (fun o p => ((Below.refl _ _).alloc (Nat.le_refl _) o).alloc (by simp) p)
  have HCA : Hid (∀ W, Below w.heap.size w W → (convert 73 9 (.slice a.A a.n a.c)).run Tryz.prog W = .ok (.string ⟨a.da.toArray⟩) W) := Lib.hid (fun W hW => run_conv_bs Tryz.underlying73 Tryz.underlying5 Tryz.underlying9 (Rd.below' ha hW hB (Nat.le_refl _)) a.c)
  have HCB : Hid (∀ W, Below w.heap.size w W → (convert 73 9 (.slice b.A b.n b.c)).run Tryz.prog W = .ok (.string ⟨b.da.toArray⟩) W) := Lib.hid (fun W hW => run_conv_bs Tryz.underlying73 Tryz.underlying5 Tryz.underlying9 (Rd.below' hb hW hB (Nat.le_refl _)) b.c)
  obtain ⟨q, hq, hqi⟩ : ∃ q : Bool, sameE a.en b.en = q ∧ (q = true ↔ a.ix = b.ix ∧ a.te = b.te ∧ a.da = b.da) := ⟨_, rfl, sameE_iff⟩
  rw [hq]
  obtain ⟨ix, te, A, n, c, da⟩ := a
  obtain ⟨ix2, te2, A2, n2, c2, da2⟩ := b
  dsimp only [EnV.val] at *
  have HQ := Lib.hid hqi
  clear hq hqi ha hb
  by_cases h1 : ix = ix2
  · by_cases h2 : te = te2
    · subst h1
      subst h2
      by_cases h3 : da = da2
      · obtain rfl : q = true := HQ.out.2 ⟨rfl, rfl, h3⟩
        subst h3
        have hca := HCA.out _ (HB.out (.cells #[.int .i64 ix, .int .i64 te, .slice A n c] 75 (0, 0)) (.cells #[.int .i64 ix, .int .i64 te, .slice A2 n2 c2] 75 (0, 0)))
        have hcb := HCB.out _ (HB.out (.cells #[.int .i64 ix, .int .i64 te, .slice A n c] 75 (0, 0)) (.cells #[.int .i64 ix, .int .i64 te, .slice A2 n2 c2] 75 (0, 0)))
        go_enter Tryz.func97, Tryz.ntmps97
        go_wp2_with fail
        go_ret
        exact ⟨rfl, HB.out _ _⟩
      · obtain rfl : q = false := by
          cases q
          · rfl
          · exact absurd (HQ.out.1 rfl).2.2 h3
        have hca := HCA.out _ (HB.out (.cells #[.int .i64 ix, .int .i64 te, .slice A n c] 75 (0, 0)) (.cells #[.int .i64 ix, .int .i64 te, .slice A2 n2 c2] 75 (0, 0)))
        have hcb := HCB.out _ (HB.out (.cells #[.int .i64 ix, .int .i64 te, .slice A n c] 75 (0, 0)) (.cells #[.int .i64 ix, .int .i64 te, .slice A2 n2 c2] 75 (0, 0)))
        have h3b : (da == da2) = false := by simpa using h3
        go_enter Tryz.func97, Tryz.ntmps97
        go_wp2_with fail
        go_ret
        exact ⟨rfl, HB.out _ _⟩
    · obtain rfl : q = false := by
        cases q
        · rfl
        · exact absurd (HQ.out.1 rfl).2.1 h2
      go_enter Tryz.func97, Tryz.ntmps97
      go_wp2_with fail
      go_ret
      exact ⟨rfl, HB.out _ _⟩
  · obtain rfl : q = false := by
      cases q
      · rfl
      · exact absurd (HQ.out.1 rfl).1 h1
    go_enter Tryz.func97, Tryz.ntmps97
    go_wp2_with fail
    go_ret
    exact ⟨rfl, HB.out _ _⟩

/-- What a question is: a function value that answers, of an index and two entries, as q does. -/
def Asks (w : World) (F : Nat) (bound : Array Value) (q : Int → En → En → Bool) : Prop :=
  ∀ (W : World) (i : Int) (x y : EnV), Below w.heap.size w W → Calls Tryz.prog F (#[.int .i64 i, x.val, y.val] ++ bound) W fun e w' => e = .returned (.bool (q i x.en y.en)) ∧ Below W.heap.size W w'
set_option maxRecDepth 100000 in
theorem two1_any (w : World) (i : Int) (x y : EnV) :
    Calls Tryz.prog 61 #[.int .i64 i, x.val, y.val] w fun e w' => e = .returned (.bool (qTerm i x.en y.en)) ∧ Below w.heap.size w w' := by
  have HB : Hid (∀ o p, Below w.heap.size w ((w.alloc o).alloc p)) := Lib.hid (fun o p => ((Below.refl _ _).alloc (Nat.le_refl _) o).alloc (by simp) p)
  obtain ⟨q, hq, hqi⟩ : ∃ q : Bool, qTerm i x.en y.en = q ∧ (q = true ↔ x.te = y.te) := ⟨_, rfl, by unfold qTerm; exact decide_eq_true_iff⟩
  rw [hq]
  obtain ⟨ix, te, A, n, c, da⟩ := x
  obtain ⟨ix2, te2, A2, n2, c2, da2⟩ := y
  dsimp only [EnV.val] at *
  have HQ := Lib.hid hqi
  clear hq hqi
  by_cases h1 : te = te2
  · obtain rfl : q = true := HQ.out.2 h1
    go_enter Tryz.func61, Tryz.ntmps61
    go_wp2_with fail
    go_ret
    exact ⟨rfl, HB.out _ _⟩
  · obtain rfl : q = false := by
      cases q
      · rfl
      · exact absurd (HQ.out.1 rfl) h1
    have h1b : (te == te2) = false := by simpa using h1
    go_enter Tryz.func61, Tryz.ntmps61
    go_wp2_with fail
    go_ret
    exact ⟨rfl, HB.out _ _⟩
set_option maxRecDepth 100000 in
theorem two2_any (w : World) (i : Int) (x y : EnV) (a b : VwV) (pa pb : Nat) (ha : w.cell? ⟨pa, 5, none⟩ = some (.int .i64 a.co)) (hb : w.cell? ⟨pb, 5, none⟩ = some (.int .i64 b.co)) :
    Calls Tryz.prog 62 #[.int .i64 i, x.val, y.val, .pointer (some ⟨pa, 0, none⟩), .pointer (some ⟨pb, 0, none⟩)] w fun e w' => e = .returned (.bool (qBoth a.vw b.vw i x.en y.en)) ∧ Below w.heap.size w w' := by
  have HB : Hid (∀ o p, Below w.heap.size w ((w.alloc o).alloc p)) := Lib.hid (fun o p => ((Below.refl _ _).alloc (Nat.le_refl _) o).alloc (by simp) p)
  obtain ⟨q, hq, hqi⟩ : ∃ q : Bool, qBoth a.vw b.vw i x.en y.en = q ∧ (q = true ↔ i ≤ a.co ∧ i ≤ b.co) := ⟨_, rfl, by unfold qBoth VwV.vw; simp only [Bool.and_eq_true, decide_eq_true_eq]⟩
  rw [hq]
  have hc (o p : Obj) : ((w.alloc o).alloc p).cell? ⟨pa, 5, none⟩ = some (.int .i64 a.co) := ((HB.out o p).cell (p := ⟨pa, 5, none⟩) (cell_lt ha)).trans ha
  have hd (o p : Obj) : ((w.alloc o).alloc p).cell? ⟨pb, 5, none⟩ = some (.int .i64 b.co) := ((HB.out o p).cell (p := ⟨pb, 5, none⟩) (cell_lt hb)).trans hb
  generalize a.co = ac at *
  generalize b.co = bc at *
  obtain ⟨ix, te, A, n, c, da⟩ := x
  obtain ⟨ix2, te2, A2, n2, c2, da2⟩ := y
  dsimp only [EnV.val] at *
  have HQ := Lib.hid hqi
  have hc := hc (.cells #[.int .i64 ix, .int .i64 te, .slice A n c] 75 (0, 0)) (.cells #[.int .i64 ix2, .int .i64 te2, .slice A2 n2 c2] 75 (0, 0))
  have hd := hd (.cells #[.int .i64 ix, .int .i64 te, .slice A n c] 75 (0, 0)) (.cells #[.int .i64 ix2, .int .i64 te2, .slice A2 n2 c2] 75 (0, 0))
  clear hq hqi ha hb
  by_cases h1 : i ≤ ac
  · by_cases h2 : i ≤ bc
    · obtain rfl : q = true := HQ.out.2 ⟨h1, h2⟩
      go_enter Tryz.func62, Tryz.ntmps62
      go_wp2_with fail
      go_ret
      exact ⟨rfl, HB.out _ _⟩
    · obtain rfl : q = false := by
        cases q
        · rfl
        · exact absurd (HQ.out.1 rfl).2 h2
      go_enter Tryz.func62, Tryz.ntmps62
      go_wp2_with fail
      go_ret
      exact ⟨rfl, HB.out _ _⟩
  · obtain rfl : q = false := by
      cases q
      · rfl
      · exact absurd (HQ.out.1 rfl).1 h1
    go_enter Tryz.func62, Tryz.ntmps62
    go_wp2_with fail
    go_ret
    exact ⟨rfl, HB.out _ _⟩

theorem getD_en {es : List EnV} {k : Nat} (hk : k < es.length) : (es.map EnV.en).getD k default = (es[k]).en := by
  rw [List.getD_eq_getElem?_getD, List.getElem?_eq_getElem (by simpa using hk), Option.getD_some, List.getElem_map]
theorem unB_out {a b : Vw} {q : Int → En → En → Bool} {k : Nat} (h : a.ix - b.ix + k < 0 ∨ (b.es.length : Int) ≤ a.ix - b.ix + k) : unB a b q k = false := by
  unfold unB
  rcases h with h | h
  · rw [decide_eq_false (by omega)]; simp
  · rw [decide_eq_false (p := a.ix - b.ix + (k : Int) < b.es.length) (by omega)]; simp
theorem unB_in {a b : Vw} {q : Int → En → En → Bool} {k j : Nat} (h : a.ix - b.ix + k = j) (hj : j < b.es.length) : unB a b q k = (q (a.ix + k + 1) (a.es.getD k default) (b.es.getD j default) && !sameE (a.es.getD k default) (b.es.getD j default)) := by
  unfold unB
  rw [h, decide_eq_true (by omega), decide_eq_true (by omega), Int.toNat_natCast]
  simp
set_option maxRecDepth 100000 in
set_option maxHeartbeats 4000000 in
theorem pair_any {w : World} (a b : VwV) (B : Nat) (hB : B ≤ w.heap.size) (ha : RdEn w B a.eA a.en a.es) (hb : RdEn w B b.eA b.en b.es) (hna : a.en ≤ 140737488355328) (hnb : b.en ≤ 140737488355328) (hra : rightB a.vw = true) (hrb : rightB b.vw = true)
    (F : Nat) (bound : Array Value) (q : Int → En → En → Bool) (hen : ∀ args w, (callFunc F args).run Tryz.prog w = .ok (.enter F args) w) (hq : Asks w F bound q) :
    Calls Tryz.prog 60 #[a.val, b.val, .func (.func F) #[] bound] w fun e w' => e = .returned (.bool (pairB a.vw b.vw q)) ∧ Below w.heap.size w w' := by
  have hla := ha.len
  have hlb := hb.len
  obtain ⟨hax0, hax1⟩ : 0 ≤ a.ix ∧ a.ix ≤ 1099511627776 := by
    unfold rightB VwV.vw at hra
    simp only [Bool.and_eq_true, decide_eq_true_eq] at hra
    exact ⟨hra.1.1.1.1, hra.1.1.1.2⟩
  obtain ⟨hbx0, hbx1⟩ : 0 ≤ b.ix ∧ b.ix ≤ 1099511627776 := by
    unfold rightB VwV.vw at hrb
    simp only [Bool.and_eq_true, decide_eq_true_eq] at hrb
    exact ⟨hrb.1.1.1.1, hrb.1.1.1.2⟩
  clear hra hrb
  obtain ⟨r, hr⟩ : ∃ r, pairB a.vw b.vw q = r := ⟨_, rfl⟩
  rw [hr]
  have HR := Lib.hid hr
  have HUN : Hid (∀ k, k < a.es.length → ∀ j : Nat, a.ix - b.ix + k = j → (hj : j < b.es.length) → unB a.vw b.vw q k = (q (a.ix + k + 1) (a.vw.es.getD k default) (b.es[j]).en && !sameE (a.vw.es.getD k default) (b.es[j]).en)) := Lib.hid (fun k hk j h hj => by
    rw [unB_in (a := a.vw) (b := b.vw) h (by simpa [VwV.vw] using hj), show b.vw.es.getD j default = (b.es[j]).en from getD_en hj]; rfl)
  have HUA : Hid (∀ k, (hk : k < a.es.length) → a.vw.es.getD k default = (a.es[k]).en) := Lib.hid (fun k hk => getD_en hk)
  have HUO : Hid (∀ k : Nat, (a.ix - b.ix + k < 0 ∨ (b.es.length : Int) ≤ a.ix - b.ix + k) → unB a.vw b.vw q k = false) := Lib.hid (fun k h => unB_out (by simpa [VwV.vw] using h))
  have HPT : Hid (∀ k, k < a.es.length → unB a.vw b.vw q k = true → r = true) := Lib.hid (fun k hk h => hr ▸ pairB_t (by simpa [VwV.vw] using hk) h)
  have HEND : Hid ((List.range a.es.length).any (unB a.vw b.vw q) = r) := Lib.hid (by rw [← hr]; simp [pairB, VwV.vw])
  generalize hW0 : (w.alloc (.cells a.cells.toArray 59 (0, 0))).alloc (.cells b.cells.toArray 59 (0, 0)) = W0
  have hz0 : W0.heap.size = w.heap.size + 2 := by rw [← hW0]; simp
  have hb0 : Below w.heap.size w W0 := by rw [← hW0]; exact ((Below.refl _ _).alloc (Nat.le_refl _) _).alloc (by simp) _
  have hc0 : W0.heap[w.heap.size]? = some (.cells a.cells.toArray 59 (0, 0)) := by
    rw [← hW0]
    exact (Below.heap_alloc _ _ _ (by simp)).trans (heap_alloc_new w _)
  have hc1 : W0.heap[w.heap.size + 1]? = some (.cells b.cells.toArray 59 (0, 0)) := by
    rw [← hW0]
    exact heap_at (by simp)
  have HX : Hid (∀ W, Below (w.heap.size + 2) W0 W → Below w.heap.size w W ∧ w.heap.size + 2 ≤ W.heap.size ∧ (∀ j, W.cell? ⟨w.heap.size, j, none⟩ = (a.cells.toArray)[j]?) ∧ (∀ j, W.cell? ⟨w.heap.size + 1, j, none⟩ = (b.cells.toArray)[j]?) ∧ RdEn W B a.eA a.en a.es ∧ RdEn W B b.eA b.en b.es) := Lib.hid (fun W hW => by
    have hz := hW.size
    have hb1 : Below w.heap.size w W := hb0.trans (hW.mono (by omega))
    exact ⟨hb1, by omega, blk_cell ((hW.block _ (by omega)).trans hc0), blk_cell ((hW.block _ (by omega)).trans hc1), ha.below hb1 hB, hb.below hb1 hB⟩)
  have HQ := Lib.hid hq
  have HEN := Lib.hid hen
  have HB0 : Hid (Below (w.heap.size + 2) W0 W0) := Lib.hid (Below.refl _ _)
  have HW0 := Lib.hid hW0
  clear hW0 hb0 hc0 hc1 ha hb hq hen hr
  obtain ⟨id, ro, le, ht, hv, co, ix, te, vA, vn, vc, eA, en, ec, es⟩ := a
  obtain ⟨id2, ro2, le2, ht2, hv2, co2, ix2, te2, vA2, vn2, vc2, eA2, en2, ec2, es2⟩ := b
  dsimp only [VwV.val, VwV.cells] at *
  subst hla
  subst hlb
  go_enter Tryz.func60, Tryz.ntmps60
  go_wp2_with fail
  go_loopw [13] (fun i wr => ∃ k : Nat, k ≤ es.length ∧ i = .int .i64 k ∧ (List.range k).any (unB (VwV.vw ⟨id, ro, le, ht, hv, co, ix, te, vA, vn, vc, eA, es.length, ec, es⟩) (VwV.vw ⟨id2, ro2, le2, ht2, hv2, co2, ix2, te2, vA2, vn2, vc2, eA2, es2.length, ec2, es2⟩) q) = false ∧ Below (w.heap.size + 2) W0 wr) (fun i _ => es.length - (intOf i).toNat)
  case atStart => exact ⟨0, by omega, rfl, rfl, by rw [HW0.out]; exact HB0.out⟩
  case round =>
    obtain ⟨k, hk, rfl, hany, hwr⟩ := hrel
    have HANY := Lib.hid hany
    have HWR := Lib.hid hwr
    obtain ⟨_, hzr, _, _, hrda, hrdb⟩ := HX.out wr hwr
    have HZR := Lib.hid hzr
    have HRDB := Lib.hid hrdb
    clear hany hwr
    by_cases hlt : k < es.length
    · obtain ⟨eb, off, rfl, heb, x0, x1, x2, hxr⟩ := hrda.at_ hlt
      have hk1 : (k : Int) < es.length := by omega
      have HUA1 := Lib.hid (HUA.out k hlt)
      have HUN1 := Lib.hid (HUN.out k hlt)
      have HUO1 := Lib.hid (HUO.out k)
      have HPT1 := Lib.hid (HPT.out k hlt)
      have HXR := Lib.hid hxr
      generalize es[k] = x at *
      obtain ⟨xi, xt, xA, xn, xc, xd⟩ := x
      dsimp only at *
      obtain ⟨d, hd⟩ : ∃ d : Int, ix - ix2 = d := ⟨_, rfl⟩
      have hsub : IntKind.i64.wrap (ix - ix2) = d := ((IntWalk.i64_left _).trans (IntWalk.wrap64_in _ (by omega))).trans hd
      have HE0 : Hid (∀ W, Below (wr.heap.size + 1) (wr.alloc (.cells #[.int .i64 xi, .int .i64 xt, .slice xA xn xc] 75 (0, 0))) W → (∀ j, W.cell? ⟨wr.heap.size, j, none⟩ = (#[.int .i64 xi, .int .i64 xt, .slice xA xn xc] : Array Value)[j]?)) := Lib.hid (fun W hW => blk_cell ((hW.block wr.heap.size (by omega)).trans (heap_alloc_new wr _)))
      have HV1 : Hid (∀ W, Below (wr.heap.size + 1) (wr.alloc (.cells #[.int .i64 xi, .int .i64 xt, .slice xA xn xc] 75 (0, 0))) W → (∀ j, W.cell? ⟨w.heap.size, j, none⟩ = (#[.int .i64 id, .int .i64 ro, .int .i64 le, .int .i64 ht, .int .i64 hv, .int .i64 co, .int .i64 ix, .int .i64 te, .slice vA vn vc, .slice (some ⟨eb, off, none⟩) es.length ec] : Array Value)[j]?)) := Lib.hid (fun W hW => (HX.out W (HWR.out.trans (((((Below.refl wr.heap.size wr).alloc (Nat.le_refl _) _).trans (hW.mono (by omega)))).mono HZR.out))).2.2.1)
      have HV2 : Hid (∀ W, Below (wr.heap.size + 1) (wr.alloc (.cells #[.int .i64 xi, .int .i64 xt, .slice xA xn xc] 75 (0, 0))) W → (∀ j, W.cell? ⟨w.heap.size + 1, j, none⟩ = (#[.int .i64 id2, .int .i64 ro2, .int .i64 le2, .int .i64 ht2, .int .i64 hv2, .int .i64 co2, .int .i64 ix2, .int .i64 te2, .slice vA2 vn2 vc2, .slice eA2 es2.length ec2] : Array Value)[j]?)) := Lib.hid (fun W hW => (HX.out W (HWR.out.trans (((((Below.refl wr.heap.size wr).alloc (Nat.le_refl _) _).trans (hW.mono (by omega)))).mono HZR.out))).2.2.2.1)
      have fv1 := HV1.out _ (Below.refl _ _)
      have fv2 := HV2.out _ (Below.refl _ _)
      obtain ⟨e, he⟩ : ∃ e : Int, d + (k : Int) = e := ⟨_, rfl⟩
      have hsum : IntKind.i64.wrap (d + (k : Int)) = e := ((IntWalk.i64_left _).trans (IntWalk.wrap64_in _ (by omega))).trans he
      have HE : Hid (ix - ix2 + (k : Int) = e) := Lib.hid (by omega)
      by_cases hneg : e < 0
      · have HUF := Lib.hid (HUO1.out (.inl (by have := HE.out; omega)))
        have hda : decide (0 ≤ e) = false := decide_eq_false (by omega)
        clear hd he
        go_wp2_with fail
        clear hsub hsum fv1 fv2 x0 x1 x2
        refine wp_region_sched [(0, true), (1, true), (2, true), (3, true), (4, true), (5, true), (6, true), (7, true), (8, true), (9, true), (10, true), (11, true), (12, true), (13, true), (14, true), (15, true), (16, true), (17, true), (18, true), (19, true), (20, true), (21, true), (22, false), (23, true), (24, true), (25, true), (26, true), (27, true), (28, true), (29, true), (30, true), (31, false), (32, true), (33, true)] (fun W => Below (wr.heap.size + 1) (wr.alloc (.cells #[.int .i64 xi, .int .i64 xt, .slice xA xn xc] 75 (0, 0))) W) (by kernel_rfl) (by kernel_rfl) rfl (by kernel_rfl) ((Below.refl _ _).drew) ?_
        repeat (first | (apply sched_take rfl; (focus (first | rfl | (go_simp; done))); (focus (intro W hW; have f1 := HV1.out W hW; have f2 := HV2.out W hW; have f3 := HE0.out W hW; go_simp; rfl)); (focus (intro K hK; go_simp; refine hK _ ?_; clear hK K))) | (apply sched_skip rfl; (focus (first | rfl | (go_simp; done))); (focus (intro K hK; go_simp; refine hK _ ?_; clear hK K))))
        refine sched_nil ?_
        go_wp2_with fail
        go_roundw
        case rel =>
          exact ⟨k + 1, by omega, by go_num, by rw [unB_all_succ, HANY.out, HUF.out]; rfl, (below_alloc (by omega) HWR.out _).drew⟩
        case measure => simp [intOf]; omega
      · by_cases hfar : (es2.length : Int) ≤ e
        · have HUF := Lib.hid (HUO1.out (.inr (by have := HE.out; omega)))
          have hda : decide (0 ≤ e) = true := decide_eq_true (by omega)
          have hdb : decide (e < (es2.length : Int)) = false := decide_eq_false (by omega)
          clear hd he
          go_wp2_with fail
          clear hsub hsum fv1 fv2 x0 x1 x2
          refine wp_region_sched [(0, true), (1, true), (2, true), (3, true), (4, true), (5, true), (6, true), (7, true), (8, true), (9, true), (10, true), (11, true), (12, true), (13, true), (14, true), (15, true), (16, true), (17, true), (18, true), (19, true), (20, true), (21, true), (22, false), (23, true), (24, true), (25, true), (26, true), (27, true), (28, true), (29, true), (30, true), (31, false), (32, true), (33, true)] (fun W => Below (wr.heap.size + 1) (wr.alloc (.cells #[.int .i64 xi, .int .i64 xt, .slice xA xn xc] 75 (0, 0))) W) (by kernel_rfl) (by kernel_rfl) rfl (by kernel_rfl) ((Below.refl _ _).drew) ?_
          repeat (first | (apply sched_take rfl; (focus (first | rfl | (go_simp; done))); (focus (intro W hW; have f1 := HV1.out W hW; have f2 := HV2.out W hW; have f3 := HE0.out W hW; go_simp; rfl)); (focus (intro K hK; go_simp; refine hK _ ?_; clear hK K))) | (apply sched_skip rfl; (focus (first | rfl | (go_simp; done))); (focus (intro K hK; go_simp; refine hK _ ?_; clear hK K))))
          refine sched_nil ?_
          go_wp2_with fail
          go_roundw
          case rel =>
            exact ⟨k + 1, by omega, by go_num, by rw [unB_all_succ, HANY.out, HUF.out]; rfl, (below_alloc (by omega) HWR.out _).drew⟩
          case measure => simp [intOf]; omega
        · obtain ⟨j, rfl⟩ : ∃ j : Nat, e = (j : Int) := ⟨e.toNat, by omega⟩
          have hjl : j < es2.length := by omega
          have hj0 : (0 : Int) ≤ (j : Int) := by omega
          have hj1 : (j : Int) < es2.length := by omega
          obtain ⟨yb, yoff, rfl, hyb, y0, y1, y2, hyr⟩ := HRDB.out.at_ hjl
          have HUY := Lib.hid (HUN1.out j HE.out hjl)
          have HYR := Lib.hid hyr
          generalize es2[j] = y at *
          obtain ⟨yi, yt, yA, yn, yc, yd⟩ := y
          dsimp only at *
          have hybl := cell_lt y0
          have HV3 : Hid (∀ W, Below (wr.heap.size + 1) (wr.alloc (.cells #[.int .i64 xi, .int .i64 xt, .slice xA xn xc] 75 (0, 0))) W → W.cell? ⟨yb, yoff + j * 3, none⟩ = some (.int .i64 yi) ∧ W.cell? ⟨yb, yoff + j * 3 + 1, none⟩ = some (.int .i64 yt) ∧ W.cell? ⟨yb, yoff + j * 3 + 2, none⟩ = some (.slice yA yn yc)) := Lib.hid (fun W hW => by
            have hbW : Below wr.heap.size wr W := ((Below.refl wr.heap.size wr).alloc (Nat.le_refl _) _).trans (hW.mono (by omega))
            exact ⟨(hbW.cell (p := ⟨yb, yoff + j * 3, none⟩) hybl).trans y0, (hbW.cell (p := ⟨yb, yoff + j * 3 + 1, none⟩) hybl).trans y1, (hbW.cell (p := ⟨yb, yoff + j * 3 + 2, none⟩) hybl).trans y2⟩)
          have HW1 : Hid (IntKind.i64.wrap (ix + (k : Int)) = ix + (k : Int)) := Lib.hid ((IntWalk.i64_left _).trans (IntWalk.wrap64_in _ (by omega)))
          have HW2 : Hid (IntKind.i64.wrap (ix + (k : Int) + 1) = ix + (k : Int) + 1) := Lib.hid ((IntWalk.i64_left _).trans (IntWalk.wrap64_in _ (by omega)))
          clear hd he hyr
          go_wp2_with fail
          clear hsub hsum fv1 fv2 x0 x1 x2 y0 y1 y2
          refine wp_region_sched [(0, true), (1, true), (2, true), (3, true), (4, true), (5, true), (6, true), (7, true), (8, true), (9, true), (10, true), (11, true), (12, true), (13, true), (14, true), (15, true), (16, true), (17, true), (18, true), (19, true), (20, true), (21, true), (22, false), (23, true), (24, true), (25, true), (26, true), (27, true), (28, true), (29, true), (30, true), (31, false), (32, true), (33, true)] (fun W => Below (wr.heap.size + 1) (wr.alloc (.cells #[.int .i64 xi, .int .i64 xt, .slice xA xn xc] 75 (0, 0))) W) (by kernel_rfl) (by kernel_rfl) rfl (by kernel_rfl) ((Below.refl _ _).drew) ?_
          repeat (first | (apply sched_take rfl; (focus (first | rfl | (go_simp; done))); (focus (intro W hW; have f1 := HV1.out W hW; have f2 := HV2.out W hW; have f3 := HE0.out W hW; have q1 := HW1.out; have q2 := HW2.out; have f4 := HV3.out W hW; go_simp; rfl)); (focus (intro K hK; go_simp; refine hK _ ?_; clear hK K))) | (apply sched_skip rfl; (focus (first | rfl | (go_simp; done))); (focus (intro K hK; go_simp; refine hK _ ?_; clear hK K))))
          apply sched_op rfl
          intro K hK
          have hen := HEN.out
          go_simp
          go_wp2_with (fail)
          refine (HQ.out _ _ ⟨xi, xt, xA, xn, xc, xd⟩ ⟨yi, yt, yA, yn, yc, yd⟩ (HX.out _ (HWR.out.trans ((((Below.refl wr.heap.size wr).alloc (Nat.le_refl _) _).drew).mono HZR.out))).1).mono ?_
          rintro e w5 ⟨rfl, hb5⟩
          clear hen
          have HB5 : Hid (Below (wr.heap.size + 1) (wr.alloc (.cells #[.int .i64 xi, .int .i64 xt, .slice xA xn xc] 75 (0, 0))) w5) := Lib.hid ((Below.refl _ _).drew.trans (hb5.mono (by simp)))
          have HUY1 : Hid (unB _ _ q k = (q (ix + (k : Int) + 1) (EnV.en ⟨xi, xt, xA, xn, xc, xd⟩) (EnV.en ⟨yi, yt, yA, yn, yc, yd⟩) && !sameE (EnV.en ⟨xi, xt, xA, xn, xc, xd⟩) (EnV.en ⟨yi, yt, yA, yn, yc, yd⟩))) := Lib.hid (by have h := HUY.out; rw [HUA1.out] at h; exact h)
          generalize q (ix + (k : Int) + 1) (EnV.en ⟨xi, xt, xA, xn, xc, xd⟩) (EnV.en ⟨yi, yt, yA, yn, yc, yd⟩) = q0 at *
          clear hb5
          go_wp2_with fail
          refine ⟨by exact HB5.out, ?_⟩
          cases q0
          · repeat (first | (apply sched_take rfl; (focus (first | rfl | (go_simp; done))); (focus (intro W hW; have f1 := HV1.out W hW; have f2 := HV2.out W hW; have f3 := HE0.out W hW; have q1 := HW1.out; have q2 := HW2.out; have f4 := HV3.out W hW; go_simp; rfl)); (focus (intro K hK; go_simp; refine hK _ ?_; clear hK K))) | (apply sched_skip rfl; (focus (first | rfl | (go_simp; done))); (focus (intro K hK; go_simp; refine hK _ ?_; clear hK K))))
            refine sched_nil ?_
            go_wp2_with fail
            go_roundw
            case rel =>
              exact ⟨k + 1, by omega, by go_num, by rw [unB_all_succ, HANY.out, HUY1.out]; rfl, (HWR.out.trans ((((Below.refl wr.heap.size wr).alloc (Nat.le_refl _) _).trans (HB5.out.mono (by omega))).mono HZR.out))⟩
            case measure => simp [intOf]; omega
          · repeat (first | (apply sched_take rfl; (focus (first | rfl | (go_simp; done))); (focus (intro W hW; have f1 := HV1.out W hW; have f2 := HV2.out W hW; have f3 := HE0.out W hW; have q1 := HW1.out; have q2 := HW2.out; have f4 := HV3.out W hW; go_simp; rfl)); (focus (intro K hK; go_simp; refine hK _ ?_; clear hK K))) | (apply sched_skip rfl; (focus (first | rfl | (go_simp; done))); (focus (intro K hK; go_simp; refine hK _ ?_; clear hK K))))
            apply sched_op rfl
            intro K hK
            go_simp
            go_wp2_with (fail)
            refine (same_any ⟨xi, xt, xA, xn, xc, xd⟩ ⟨yi, yt, yA, yn, yc, yd⟩ B _ (by have := HZR.out; have := HB5.out.size; simp at this; omega) (Rd.below' HXR.out ((((Below.refl wr.heap.size wr).alloc (Nat.le_refl _) _).trans (HB5.out.mono (by omega)))) (by omega) (Nat.le_refl _)) (Rd.below' HYR.out ((((Below.refl wr.heap.size wr).alloc (Nat.le_refl _) _).trans (HB5.out.mono (by omega)))) (by omega) (Nat.le_refl _))).mono ?_
            rintro e w6 ⟨rfl, hb6⟩
            have HB6 : Hid (Below (wr.heap.size + 1) (wr.alloc (.cells #[.int .i64 xi, .int .i64 xt, .slice xA xn xc] 75 (0, 0))) w6) := Lib.hid (HB5.out.trans (hb6.mono (by have := HB5.out.size; simp at this; omega)))
            generalize sameE (EnV.en ⟨xi, xt, xA, xn, xc, xd⟩) (EnV.en ⟨yi, yt, yA, yn, yc, yd⟩) = q1 at *
            clear hb6
            go_wp2_with fail
            refine ⟨by exact HB6.out, ?_⟩
            cases q1
            · repeat (first | (apply sched_take rfl; (focus (first | rfl | (go_simp; done))); (focus (intro W hW; have f1 := HV1.out W hW; have f2 := HV2.out W hW; have f3 := HE0.out W hW; have q1 := HW1.out; have q2 := HW2.out; have f4 := HV3.out W hW; go_simp; rfl)); (focus (intro K hK; go_simp; refine hK _ ?_; clear hK K))) | (apply sched_skip rfl; (focus (first | rfl | (go_simp; done))); (focus (intro K hK; go_simp; refine hK _ ?_; clear hK K))))
              refine sched_nil ?_
              go_wp2_with fail
              obtain rfl : r = true := HPT1.out (by rw [HUY1.out]; rfl)
              go_ret
              exact ⟨rfl, (HX.out _ (HWR.out.trans ((((Below.refl wr.heap.size wr).alloc (Nat.le_refl _) _).trans (HB6.out.mono (by omega))).mono HZR.out))).1⟩
            · repeat (first | (apply sched_take rfl; (focus (first | rfl | (go_simp; done))); (focus (intro W hW; have f1 := HV1.out W hW; have f2 := HV2.out W hW; have f3 := HE0.out W hW; have q1 := HW1.out; have q2 := HW2.out; have f4 := HV3.out W hW; go_simp; rfl)); (focus (intro K hK; go_simp; refine hK _ ?_; clear hK K))) | (apply sched_skip rfl; (focus (first | rfl | (go_simp; done))); (focus (intro K hK; go_simp; refine hK _ ?_; clear hK K))))
              refine sched_nil ?_
              go_wp2_with fail
              go_roundw
              case rel =>
                exact ⟨k + 1, by omega, by go_num, by rw [unB_all_succ, HANY.out, HUY1.out]; rfl, (HWR.out.trans ((((Below.refl wr.heap.size wr).alloc (Nat.le_refl _) _).trans (HB6.out.mono (by omega))).mono HZR.out))⟩
              case measure => simp [intOf]; omega
    · have hke : k = es.length := by omega
      obtain rfl : r = false := by
        have h1 := HANY.out
        rw [hke] at h1
        exact HEND.out.symm.trans h1
      go_wp2_with fail
      go_ret
      exact ⟨rfl, (HX.out _ HWR.out).1⟩
end Go.Proofs.YtfjpenbahoeklaaGreatDoor
namespace Go.Proofs.YtfjpenbahoeklaaGreatDoor
open Go Go.RowKit

/-- What a call leaves that makes a row of numbers. -/
def ResZ (w : World) (l : List Int) (e : Ending) (w' : World) : Prop :=
  ∃ A c, e = .returned (.slice A l.length c) ∧ w'.ownsRow w.heap.size 3 1 (.slice A l.length c) l.length (l.map (Value.int .i64)) ∧ Below w.heap.size w w'
theorem Rd.oneZ {w : World} {H : Nat} (hH : w.heap.size = H) (z : Int) (t : TypeId) (fr : Nat × Nat) : Rd (w.alloc (.cells #[.int .i64 z] t fr)) (H + 1) 1 (some ⟨H, 0, none⟩) 1 [.int .i64 z] :=
  Rd.new hH rfl (by intro j hj; simp at hj; subst hj; rfl)
set_option maxRecDepth 100000 in
set_option maxHeartbeats 4000000 in
theorem two_any {w : World} (a b : VwV) (B : Nat) (hB : B ≤ w.heap.size) (ha : RdEn w B a.eA a.en a.es) (hb : RdEn w B b.eA b.en b.es) (hna : a.en ≤ 140737488355328) (hnb : b.en ≤ 140737488355328) (hra : rightB a.vw = true) (hrb : rightB b.vw = true) :
    Calls Tryz.prog 38 #[a.val, b.val] w (ResZ w (twoL a.vw b.vw)) := by
  generalize hW0 : (w.alloc (.cells a.cells.toArray 59 (0, 0))).alloc (.cells b.cells.toArray 59 (0, 0)) = W0
  have hz0 : W0.heap.size = w.heap.size + 2 := by rw [← hW0]; simp
  have hb0 : Below w.heap.size w W0 := by rw [← hW0]; exact ((Below.refl _ _).alloc (Nat.le_refl _) _).alloc (by simp) _
  have hc0 : W0.heap[w.heap.size]? = some (.cells a.cells.toArray 59 (0, 0)) := by
    rw [← hW0]
    exact (Below.heap_alloc _ _ _ (by simp)).trans (heap_alloc_new w _)
  have hc1 : W0.heap[w.heap.size + 1]? = some (.cells b.cells.toArray 59 (0, 0)) := by
    rw [← hW0]
    exact heap_at (by simp)
  have HX : Hid (∀ W, Below (w.heap.size + 2) W0 W → Below w.heap.size w W ∧ w.heap.size + 2 ≤ W.heap.size ∧ (∀ j, W.cell? ⟨w.heap.size, j, none⟩ = (a.cells.toArray)[j]?) ∧ (∀ j, W.cell? ⟨w.heap.size + 1, j, none⟩ = (b.cells.toArray)[j]?) ∧ RdEn W B a.eA a.en a.es ∧ RdEn W B b.eA b.en b.es) := Lib.hid (fun W hW => by
    have hz := hW.size
    have hb1 : Below w.heap.size w W := hb0.trans (hW.mono (by omega))
    exact ⟨hb1, by omega, blk_cell ((hW.block _ (by omega)).trans hc0), blk_cell ((hW.block _ (by omega)).trans hc1), ha.below hb1 hB, hb.below hb1 hB⟩)
  have HP1 : Hid (∀ W, Below (w.heap.size + 2) W0 W → Calls Tryz.prog 60 #[a.val, b.val, .func (.func 61) #[] #[]] W fun e w' => e = .returned (.bool (pairB a.vw b.vw qTerm)) ∧ Below W.heap.size W w') := Lib.hid (fun W hW => by
    obtain ⟨h1, h2, h3, h4, h5, h6⟩ := HX.out W hW
    exact pair_any a b B (by omega) h5 h6 hna hnb hra hrb 61 #[] qTerm (enters_of Tryz.func61 (by kernel_rfl) rfl) (fun W' i x y _ => by
      rw [Array.append_empty]; exact two1_any W' i x y))
  have HP2 : Hid (∀ W, Below (w.heap.size + 2) W0 W → Calls Tryz.prog 60 #[a.val, b.val, .func (.func 62) #[] #[.pointer (some ⟨w.heap.size, 0, none⟩), .pointer (some ⟨w.heap.size + 1, 0, none⟩)]] W fun e w' => e = .returned (.bool (pairB a.vw b.vw (qBoth a.vw b.vw))) ∧ Below W.heap.size W w') := Lib.hid (fun W hW => by
    obtain ⟨h1, h2, h3, h4, h5, h6⟩ := HX.out W hW
    exact pair_any a b B (by omega) h5 h6 hna hnb hra hrb 62 #[.pointer (some ⟨w.heap.size, 0, none⟩), .pointer (some ⟨w.heap.size + 1, 0, none⟩)] (qBoth a.vw b.vw) (enters_of Tryz.func62 (by kernel_rfl) rfl) (fun W' i x y hW' =>
      two2_any W' i x y a b w.heap.size (w.heap.size + 1) (((hW'.mono h2).cell (p := ⟨w.heap.size, 5, none⟩) (by simp)).trans (h3 5)) (((hW'.mono h2).cell (p := ⟨w.heap.size + 1, 5, none⟩) (by simp)).trans (h4 5))))
  have HB0 : Hid (Below (w.heap.size + 2) W0 W0) := Lib.hid (Below.refl _ _)
  have HW0 := Lib.hid hW0
  obtain ⟨ql, hql, hqli⟩ : ∃ q : Bool, leadB a.vw b.vw = q ∧ (q = true ↔ a.ro = 2 ∧ b.ro = 2 ∧ a.ht = b.ht) := ⟨_, rfl, by unfold leadB VwV.vw; simp only [Bool.and_eq_true, decide_eq_true_eq, and_assoc]⟩
  have HQL := Lib.hid hqli
  have HTW : Hid (twoL a.vw b.vw = (if ql then [2] else []) ++ (if pairB a.vw b.vw qTerm then [3] else []) ++ (if pairB a.vw b.vw (qBoth a.vw b.vw) then [4] else [])) := Lib.hid (by unfold twoL; rw [hql])
  have HL1 : Hid (∀ (c : Bool) (z : Int), (if c = true then [z] else []).length ≤ 1) := Lib.hid (by intro c z; cases c <;> simp)
  clear hW0 hb0 hc0 hc1 ha hb hql hqli hra hrb
  generalize twoL a.vw b.vw = tl at *
  generalize pairB a.vw b.vw qTerm = q1 at *
  generalize pairB a.vw b.vw (qBoth a.vw b.vw) = q2 at *
  obtain ⟨id, ro, le, ht, hv, co, ix, te, vA, vn, vc, eA, en, ec, es⟩ := a
  obtain ⟨id2, ro2, le2, ht2, hv2, co2, ix2, te2, vA2, vn2, vc2, eA2, en2, ec2, es2⟩ := b
  dsimp only [VwV.val, VwV.cells] at *
  obtain ⟨i0, hi0, hz0', hz1, hz2⟩ := info_parts Tryz.infoInt
  go_enter Tryz.func38, Tryz.ntmps38
  have HZ0 := Lib.hid hz0
  have hz0x : w.heap.size + 2 ≤ W0.heap.size := by omega
  clear hz0
  obtain ⟨_, _, f1, f2, _, _⟩ := HX.out _ HB0.out
  rw [← HW0.out] at f1 f2
  go_upto_region 2 with fail
  go_cut [22] (fun v wx => v = .bool ql ∧ wx = ((w.alloc (.cells #[.int .i64 id, .int .i64 ro, .int .i64 le, .int .i64 ht, .int .i64 hv, .int .i64 co, .int .i64 ix, .int .i64 te, .slice vA vn vc, .slice eA en ec] 59 (0, 0))).alloc (.cells #[.int .i64 id2, .int .i64 ro2, .int .i64 le2, .int .i64 ht2, .int .i64 hv2, .int .i64 co2, .int .i64 ix2, .int .i64 te2, .slice vA2 vn2 vc2, .slice eA2 en2 ec2] 59 (0, 0))))
  case first =>
    by_cases h1 : ro = 2
    · by_cases h2 : ro2 = 2
      · by_cases h3 : ht = ht2
        · obtain rfl : ql = true := HQL.out.2 ⟨h1, h2, h3⟩
          subst h1
          subst h2
          subst h3
          go_wp2_with fail
          go_meet
          exact ⟨rfl, rfl⟩
        · obtain rfl : ql = false := by
            cases ql
            · rfl
            · exact absurd (HQL.out.1 rfl).2.2 h3
          subst h1
          subst h2
          have h3b : (ht == ht2) = false := by simpa using h3
          go_wp2_with fail
          go_meet
          exact ⟨rfl, rfl⟩
      · obtain rfl : ql = false := by
          cases ql
          · rfl
          · exact absurd (HQL.out.1 rfl).2.1 h2
        subst h1
        have h2b : (ro2 == 2) = false := by simpa using h2
        go_wp2_with fail
        go_meet
        exact ⟨rfl, rfl⟩
    · obtain rfl : ql = false := by
        cases ql
        · rfl
        · exact absurd (HQL.out.1 rfl).1 h1
      have h1b : (ro == 2) = false := by simpa using h1
      go_wp2_with fail
      go_meet
      exact ⟨rfl, rfl⟩
  case rest =>
  obtain ⟨rfl, hwc⟩ := hcut
  obtain rfl : W0 = wc := (hwc.trans HW0.out).symm
  clear hwc f1 f2
  go_upto_if 22 with fail
  go_cut [5] (fun v wx => ∃ A c l, v = .slice A l.length c ∧ l = (if ql = true then [2] else []) ∧ wx.ownsRow (w.heap.size + 2) 3 1 (.slice A l.length c) l.length ((l : List Int).map (Value.int .i64)) ∧ Below (w.heap.size + 2) W0 wx)
  case first =>
    have HNO : Hid (W0.ownsRow (w.heap.size + 2) 3 1 (.slice none 0 0) 0 []) := Lib.hid (World.ownsRow_nil _ _ _ _)
    cases ql
    · go_wp2_with fail
      go_meet
      exact ⟨none, 0, [], rfl, rfl, HNO.out, HB0.out⟩
    · go_wp2_with (at_builtin; refine wpList_app _ rfl (.tmp 23) (.tmp 24) _ rfl (w.heap.size + 2) 3 i0 _ 1 8 Tryz.underlying22 hi0 hz0' hz1 hz2 rfl (by omega) _ _ _ _ rfl (HNO.out.alloc _) (W0.heap.size + 1) _ 1 _ _ rfl (Rd.oneZ (by simp) 2 _ _) (by intro u hu; obtain rfl := List.mem_singleton.1 hu; rfl) (by unfold maxLen; omega) (by omega) (by simp <;> omega) ?_; intro A3 c3 w3 hown3 hg3 _)
      have hb3 : Below (w.heap.size + 2) W0 w3 := below_app (HB0.out.alloc (by omega) (.cells #[.int .i64 2] 3 (0, 0))) (HNO.out.alloc _) hg3 (by simp; omega)
      have HO3 := Lib.hid hown3
      have HB3 := Lib.hid hb3
      clear hown3 hg3 hb3
      go_wp2_with fail
      go_meet
      exact ⟨A3, c3, [2], rfl, rfl, HO3.out, HB3.out⟩
  case rest =>
  obtain ⟨A1, c1, l1, rfl, hl1, hown1, hbc⟩ := hcut
  obtain ⟨_, _, f1, f2, _, _⟩ := HX.out _ hbc
  have HL := Lib.hid hl1
  have HO1 := Lib.hid hown1
  have HBC := Lib.hid hbc
  have hlen1 : l1.length ≤ 1 := by rw [hl1]; exact HL1.out ql 2
  have hwz := hbc.size
  rw [HZ0.out] at hwz
  clear hl1 hown1 hbc
  go_upto_if 28 with fail
  refine (HP1.out _ HBC.out).mono ?_
  rintro e w2 ⟨rfl, hb2⟩
  have HB2 : Hid (Below (w.heap.size + 2) W0 w2) := Lib.hid (HBC.out.trans (hb2.mono hwz))
  have HO2 := Lib.hid (own_below HO1.out hb2)
  have hz2' := hb2.size
  clear hb2 f1 f2
  go_upto_if 28 with fail
  go_cut [5] (fun v wx => ∃ A c l, v = .slice A l.length c ∧ l = l1 ++ (if q1 = true then [3] else []) ∧ wx.ownsRow (w.heap.size + 2) 3 1 (.slice A l.length c) l.length ((l : List Int).map (Value.int .i64)) ∧ Below (w.heap.size + 2) W0 wx)
  case first =>
    cases q1
    · go_wp2_with fail
      go_meet
      exact ⟨A1, c1, l1, rfl, by simp, HO2.out, HB2.out⟩
    · go_wp2_with (at_builtin; refine wpList_app _ rfl (.tmp 29) (.tmp 30) _ rfl (w.heap.size + 2) 3 i0 _ 1 8 Tryz.underlying22 hi0 hz0' hz1 hz2 rfl (by omega) _ _ _ _ rfl (HO2.out.alloc _) (w2.heap.size + 1) _ 1 _ _ rfl (Rd.oneZ (by simp) 3 _ _) (by intro u hu; obtain rfl := List.mem_singleton.1 hu; rfl) (by unfold maxLen; omega) (by omega) (by simp <;> omega) ?_; intro A3 c3 w3 hown3 hg3 _)
      have hb3 : Below (w.heap.size + 2) W0 w3 := below_app (HB2.out.alloc (by omega) (.cells #[.int .i64 3] 3 (0, 0))) (HO2.out.alloc _) hg3 (by simp; omega)
      have HO3 := Lib.hid hown3
      have HB3 := Lib.hid hb3
      clear hown3 hg3 hb3
      go_wp2_with fail
      go_meet
      exact ⟨A3, c3, l1 ++ [3], by simp, by simp, by simpa using HO3.out, HB3.out⟩
  case rest =>
  obtain ⟨A2, c2, l2, rfl, hl2, hown2, hbc2⟩ := hcut
  obtain ⟨_, _, f1, f2, _, _⟩ := HX.out _ hbc2
  have HL2 := Lib.hid hl2
  have HO2 := Lib.hid hown2
  have HBC2 := Lib.hid hbc2
  have hlen2 : l2.length ≤ 2 := by rw [hl2, List.length_append]; have := HL1.out q1 3; omega
  have hwz2 := hbc2.size
  rw [HZ0.out] at hwz2
  clear hl2 hown2 hbc2
  go_wp2_with fail
  refine (HP2.out _ HBC2.out).mono ?_
  rintro e w3 ⟨rfl, hb3⟩
  have HB3 : Hid (Below (w.heap.size + 2) W0 w3) := Lib.hid (HBC2.out.trans (hb3.mono hwz2))
  have HO3 := Lib.hid (own_below HO2.out hb3)
  have hz3 := hb3.size
  clear hb3 f1 f2
  have HTL : Hid (tl = l2 ++ (if q2 = true then [4] else [])) := Lib.hid (by rw [HTW.out, HL2.out, HL.out])
  cases q2
  · obtain rfl : tl = l2 := by rw [HTL.out]; simp
    go_wp2_with fail
    go_ret
    exact ⟨A2, c2, rfl, own_le HO3.out (by omega), (HX.out _ HB3.out).1⟩
  · obtain rfl : tl = l2 ++ [4] := by rw [HTL.out]; simp
    go_wp2_with (at_builtin; refine wpList_app _ rfl (.tmp 36) (.tmp 37) _ rfl (w.heap.size + 2) 3 i0 _ 1 8 Tryz.underlying22 hi0 hz0' hz1 hz2 rfl (by omega) _ _ _ _ rfl (HO3.out.alloc _) (w3.heap.size + 1) _ 1 _ _ rfl (Rd.oneZ (by simp) 4 _ _) (by intro u hu; obtain rfl := List.mem_singleton.1 hu; rfl) (by unfold maxLen; omega) (by omega) (by simp <;> omega) ?_; intro A4 c4 w4 hown4 hg4 _)
    have hb4 : Below (w.heap.size + 2) W0 w4 := below_app (HB3.out.alloc (by omega) (.cells #[.int .i64 4] 3 (0, 0))) (HO3.out.alloc _) hg4 (by simp; omega)
    have HO4 := Lib.hid hown4
    have HB4 := Lib.hid hb4
    clear hown4 hg4 hb4
    go_wp2_with fail
    go_ret
    exact ⟨A4, c4, by simp, by simpa using own_le HO4.out (show w.heap.size ≤ w.heap.size + 2 by omega), (HX.out _ HB4.out).1⟩
end Go.Proofs.YtfjpenbahoeklaaGreatDoor
namespace Go.Proofs.YtfjpenbahoeklaaGreatDoor
open Go Go.RowKit

theorem RdRp.at_ {w : World} {B n k : Nat} {A : Option Addr} {l : List Rp} (h : RdRp w B A n l) (hk : k < l.length) :
    ∃ b off, A = some ⟨b, off, none⟩ ∧ b < B ∧ w.cell? ⟨b, off + k * 8, none⟩ = some (.int .i64 l[k].er) ∧ w.cell? ⟨b, off + k * 8 + 1, none⟩ = some (.int .i64 l[k].ss) ∧ w.cell? ⟨b, off + k * 8 + 2, none⟩ = some (.int .i64 l[k].gn) ∧ w.cell? ⟨b, off + k * 8 + 3, none⟩ = some (.int .i64 l[k].ad) ∧ w.cell? ⟨b, off + k * 8 + 4, none⟩ = some (.int .i64 l[k].sa) ∧ w.cell? ⟨b, off + k * 8 + 5, none⟩ = some (.int .i64 l[k].ot) ∧ w.cell? ⟨b, off + k * 8 + 6, none⟩ = some (.int .i64 l[k].cy) ∧ w.cell? ⟨b, off + k * 8 + 7, none⟩ = some (.int .i64 l[k].fu) := by
  have hl := h.len
  obtain ⟨b, off, e, hb, hc⟩ := Rd.elem Rp.cells_len h (k := k) (by omega) hk
  exact ⟨b, off, e, hb, hc 0 (by omega), hc 1 (by omega), hc 2 (by omega), hc 3 (by omega), hc 4 (by omega), hc 5 (by omega), hc 6 (by omega), hc 7 (by omega)⟩
/-- A finding's cells. -/
def fiCells (f : Int × Int × Int) : List Value := [.int .i64 f.1, .int .i64 f.2.1, .int .i64 f.2.2]
theorem fiCells_len (f : Int × Int × Int) : (fiCells f).length = 3 := rfl
/-- A row of findings. -/
def RdFi (w : World) (B : Nat) (A : Option Addr) (n : Nat) (l : List (Int × Int × Int)) : Prop := Rd w B 3 A n (l.flatMap fiCells)
theorem RdFi.len {w : World} {B n : Nat} {A : Option Addr} {l : List (Int × Int × Int)} (h : RdFi w B A n l) : l.length = n := by
  have h1 := h.1; rw [flat_len _ 3 fiCells_len] at h1; omega
theorem RdFi.at_ {w : World} {B n k : Nat} {A : Option Addr} {l : List (Int × Int × Int)} (h : RdFi w B A n l) (hk : k < l.length) :
    ∃ b off, A = some ⟨b, off, none⟩ ∧ b < B ∧ w.cell? ⟨b, off + k * 3, none⟩ = some (.int .i64 l[k].1) ∧ w.cell? ⟨b, off + k * 3 + 1, none⟩ = some (.int .i64 l[k].2.1) ∧ w.cell? ⟨b, off + k * 3 + 2, none⟩ = some (.int .i64 l[k].2.2) := by
  have hl := h.len
  obtain ⟨b, off, e, hb, hc⟩ := Rd.elem fiCells_len h (k := k) (by omega) hk
  exact ⟨b, off, e, hb, hc 0 (by omega), hc 1 (by omega), hc 2 (by omega)⟩
theorem fi_dec (s t : Int × Int × Int) : ∃ q : Bool, q = true ↔ s = t := ⟨decide (s = t), by simp⟩
theorem fi_if {α : Type} {s t : Int × Int × Int} {q : Bool} (hq : q = true ↔ s = t) (a b : α) :
    (if s.1 = t.1 then if s.2.1 = t.2.1 then if s.2.2 = t.2.2 then a else b else b else b) = if q = true then a else b := by
  obtain ⟨s0, s1, s2⟩ := s
  obtain ⟨t0, t1, t2⟩ := t
  simp only [Prod.mk.injEq] at hq
  dsimp only
  by_cases h0 : s0 = t0
  · rw [if_pos h0]
    by_cases h1 : s1 = t1
    · rw [if_pos h1]
      by_cases h2 : s2 = t2
      · rw [if_pos h2, if_pos (hq.2 ⟨h0, h1, h2⟩)]
      · rw [if_neg h2, if_neg (fun h => h2 (hq.1 h).2.2)]
    · rw [if_neg h1, if_neg (fun h => h1 (hq.1 h).2.1)]
  · rw [if_neg h0, if_neg (fun h => h0 (hq.1 h).1)]
set_option maxRecDepth 100000 in
set_option maxHeartbeats 1000000 in
theorem eqR_any (A1 A2 : Option Addr) (n1 n2 c1 c2 B1 B2 : Nat) (l1 l2 : List Rp) (w : World) (h1 : RdRp w B1 A1 n1 l1) (h2 : RdRp w B2 A2 n2 l2) (hb : n1 ≤ 140737488355328) :
    Calls Tryz.prog 12 #[.slice A1 n1 c1, .slice A2 n2 c2] w (ResEq w (l1 = l2)) := by
  have hl1 := h1.len
  have hl2 := h2.len
  subst hl1 hl2
  by_cases hlen : l1.length = l2.length
  · go_enter Tryz.func12, Tryz.ntmps12
    go_wp2_with fail
    go_loopw [13] (fun i wr => ∃ k n : Nat, k ≤ l1.length ∧ i = .int .i64 k ∧ wr = w.drewN n ∧ l1.take k = l2.take k) (fun i _ => l1.length - (intOf i).toNat)
    case atStart => exact ⟨0, 0, by omega, rfl, rfl, by simp⟩
    case round =>
      obtain ⟨k, n, hk, rfl, rfl, ht⟩ := hrel
      by_cases hlt : k < l1.length
      · obtain ⟨b1, o1, rfl, _, x0, x1, x2, x3, x4, x5, x6, x7⟩ := h1.at_ hlt
        obtain ⟨b2, o2, rfl, _, y0, y1, y2, y3, y4, y5, y6, y7⟩ := h2.at_ (k := k) (by omega)
        have HT1 := Lib.hid (List.take_succ_eq_append_getElem hlt)
        have HT2 := Lib.hid (List.take_succ_eq_append_getElem (l := l2) (i := k) (by omega))
        have HT := Lib.hid ht
        generalize l1[k] = s at *
        generalize l2[k] = t at *
        clear h1 h2 ht
        have hk1 : (k : Int) < (l1.length : Int) := by omega
        have hk2 : (k : Int) < (l2.length : Int) := by omega
        go_wp2_with fail
        obtain ⟨q, hq⟩ := rp_dec s t
        cases q
        · have HQ := Lib.hid hq
          clear hq
          refine wp_region_sched [(0, true), (1, true), (2, true), (3, true), (4, true), (5, true), (6, true), (7, true), (8, true)] (fun W => ∃ m, W = w.drewN m) (by kernel_rfl) (by kernel_rfl) rfl (by kernel_rfl) (⟨n + 1, rfl⟩) ?_
          repeat (first | (apply sched_take rfl; (focus (first | rfl | (go_simp; done))); (focus (intro W hW; obtain ⟨m, rfl⟩ := hW; go_simp; rfl)); (focus (intro K hK; go_simp; refine hK _ ?_; clear hK K))) | (apply sched_skip rfl; (focus (first | rfl | (go_simp; done))); (focus (intro K hK; go_simp; refine hK _ ?_; clear hK K))))
          apply sched_take rfl
          · rfl
          · intro W hW; obtain ⟨m, rfl⟩ := hW; go_simp; exact (rp_if HQ.out _ _).trans rfl
          intro K hK; go_simp; refine hK _ ?_; clear hK K
          refine sched_nil ?_
          go_wp2_with fail
          go_ret
          refine ⟨false, rfl, ⟨(fun h => by cases h), fun h => ?_⟩, n + 1, rfl⟩
          have e := HT1.out
          rw [h, HT2.out] at e
          have e2 := List.append_cancel_left e
          simp only [List.cons.injEq, and_true] at e2
          exact absurd (HQ.out.2 e2.symm) (by simp)
        · have HQ := Lib.hid hq
          have HE := Lib.hid (hq.1 rfl)
          clear hq
          refine wp_region_sched [(0, true), (1, true), (2, true), (3, true), (4, true), (5, true), (6, true), (7, true), (8, true)] (fun W => ∃ m, W = w.drewN m) (by kernel_rfl) (by kernel_rfl) rfl (by kernel_rfl) (⟨n + 1, rfl⟩) ?_
          repeat (first | (apply sched_take rfl; (focus (first | rfl | (go_simp; done))); (focus (intro W hW; obtain ⟨m, rfl⟩ := hW; go_simp; rfl)); (focus (intro K hK; go_simp; refine hK _ ?_; clear hK K))) | (apply sched_skip rfl; (focus (first | rfl | (go_simp; done))); (focus (intro K hK; go_simp; refine hK _ ?_; clear hK K))))
          apply sched_take rfl
          · rfl
          · intro W hW; obtain ⟨m, rfl⟩ := hW; go_simp; exact (rp_if HQ.out _ _).trans rfl
          intro K hK; go_simp; refine hK _ ?_; clear hK K
          refine sched_nil ?_
          go_wp2_with fail
          go_roundw
          case rel =>
            refine ⟨_, _, _, ⟨k + 1, by omega, ?_, ⟨n + 1, rfl⟩, ?_⟩, rfl, rfl, rfl⟩
            · go_num
            · rw [HT1.out, HT2.out, HT.out, HE.out]
          case measure => simp [intOf]; omega
      · go_wp2_with fail
        go_ret
        rw [List.take_of_length_le (by omega), List.take_of_length_le (by omega)] at ht
        exact ⟨_, rfl, by simp [ht], n, rfl⟩
  · have hne : ((l1.length : Int) == l2.length) = false := by simp; omega
    go_enter Tryz.func12, Tryz.ntmps12
    go_wp2_with fail
    go_ret
    exact ⟨_, rfl, ⟨(fun h => by cases h), fun h => absurd (congrArg List.length h) hlen⟩, 0, rfl⟩
set_option maxRecDepth 100000 in
set_option maxHeartbeats 1000000 in
theorem eqF_any (A1 A2 : Option Addr) (n1 n2 c1 c2 B1 B2 : Nat) (l1 l2 : List (Int × Int × Int)) (w : World) (h1 : RdFi w B1 A1 n1 l1) (h2 : RdFi w B2 A2 n2 l2) (hb : n1 ≤ 140737488355328) :
    Calls Tryz.prog 18 #[.slice A1 n1 c1, .slice A2 n2 c2] w (ResEq w (l1 = l2)) := by
  have hl1 := h1.len
  have hl2 := h2.len
  subst hl1 hl2
  by_cases hlen : l1.length = l2.length
  · go_enter Tryz.func18, Tryz.ntmps18
    go_wp2_with fail
    go_loopw [13] (fun i wr => ∃ k n : Nat, k ≤ l1.length ∧ i = .int .i64 k ∧ wr = w.drewN n ∧ l1.take k = l2.take k) (fun i _ => l1.length - (intOf i).toNat)
    case atStart => exact ⟨0, 0, by omega, rfl, rfl, by simp⟩
    case round =>
      obtain ⟨k, n, hk, rfl, rfl, ht⟩ := hrel
      by_cases hlt : k < l1.length
      · obtain ⟨b1, o1, rfl, _, x0, x1, x2⟩ := h1.at_ hlt
        obtain ⟨b2, o2, rfl, _, y0, y1, y2⟩ := h2.at_ (k := k) (by omega)
        have HT1 := Lib.hid (List.take_succ_eq_append_getElem hlt)
        have HT2 := Lib.hid (List.take_succ_eq_append_getElem (l := l2) (i := k) (by omega))
        have HT := Lib.hid ht
        generalize l1[k] = s at *
        generalize l2[k] = t at *
        clear h1 h2 ht
        have hk1 : (k : Int) < (l1.length : Int) := by omega
        have hk2 : (k : Int) < (l2.length : Int) := by omega
        go_wp2_with fail
        obtain ⟨q, hq⟩ := fi_dec s t
        cases q
        · have HQ := Lib.hid hq
          clear hq
          refine wp_region_sched [(0, true), (1, true), (2, true), (3, true), (4, true), (5, true), (6, true), (7, true), (8, true)] (fun W => ∃ m, W = w.drewN m) (by kernel_rfl) (by kernel_rfl) rfl (by kernel_rfl) (⟨n + 1, rfl⟩) ?_
          repeat (first | (apply sched_take rfl; (focus (first | rfl | (go_simp; done))); (focus (intro W hW; obtain ⟨m, rfl⟩ := hW; go_simp; rfl)); (focus (intro K hK; go_simp; refine hK _ ?_; clear hK K))) | (apply sched_skip rfl; (focus (first | rfl | (go_simp; done))); (focus (intro K hK; go_simp; refine hK _ ?_; clear hK K))))
          apply sched_take rfl
          · rfl
          · intro W hW; obtain ⟨m, rfl⟩ := hW; go_simp; exact (fi_if HQ.out _ _).trans rfl
          intro K hK; go_simp; refine hK _ ?_; clear hK K
          refine sched_nil ?_
          go_wp2_with fail
          go_ret
          refine ⟨false, rfl, ⟨(fun h => by cases h), fun h => ?_⟩, n + 1, rfl⟩
          have e := HT1.out
          rw [h, HT2.out] at e
          have e2 := List.append_cancel_left e
          simp only [List.cons.injEq, and_true] at e2
          exact absurd (HQ.out.2 e2.symm) (by simp)
        · have HQ := Lib.hid hq
          have HE := Lib.hid (hq.1 rfl)
          clear hq
          refine wp_region_sched [(0, true), (1, true), (2, true), (3, true), (4, true), (5, true), (6, true), (7, true), (8, true)] (fun W => ∃ m, W = w.drewN m) (by kernel_rfl) (by kernel_rfl) rfl (by kernel_rfl) (⟨n + 1, rfl⟩) ?_
          repeat (first | (apply sched_take rfl; (focus (first | rfl | (go_simp; done))); (focus (intro W hW; obtain ⟨m, rfl⟩ := hW; go_simp; rfl)); (focus (intro K hK; go_simp; refine hK _ ?_; clear hK K))) | (apply sched_skip rfl; (focus (first | rfl | (go_simp; done))); (focus (intro K hK; go_simp; refine hK _ ?_; clear hK K))))
          apply sched_take rfl
          · rfl
          · intro W hW; obtain ⟨m, rfl⟩ := hW; go_simp; exact (fi_if HQ.out _ _).trans rfl
          intro K hK; go_simp; refine hK _ ?_; clear hK K
          refine sched_nil ?_
          go_wp2_with fail
          go_roundw
          case rel =>
            refine ⟨_, _, _, ⟨k + 1, by omega, ?_, ⟨n + 1, rfl⟩, ?_⟩, rfl, rfl, rfl⟩
            · go_num
            · rw [HT1.out, HT2.out, HT.out, HE.out]
          case measure => simp [intOf]; omega
      · go_wp2_with fail
        go_ret
        rw [List.take_of_length_le (by omega), List.take_of_length_le (by omega)] at ht
        exact ⟨_, rfl, by simp [ht], n, rfl⟩
  · have hne : ((l1.length : Int) == l2.length) = false := by simp; omega
    go_enter Tryz.func18, Tryz.ntmps18
    go_wp2_with fail
    go_ret
    exact ⟨_, rfl, ⟨(fun h => by cases h), fun h => absurd (congrArg List.length h) hlen⟩, 0, rfl⟩
end Go.Proofs.YtfjpenbahoeklaaGreatDoor
namespace Go.Proofs.YtfjpenbahoeklaaGreatDoor
open Go Go.RowKit

theorem Tryz.infoFinding : (Tryz.prog.info? 43).map (fun i => (i.zero, i.size, i.bytes)) = some (some (.agg #[.int .i64 0, .int .i64 0, .int .i64 0]), 3, 24) := by kernel_rfl
theorem view_one (v : VwV) : (#[.int .i64 v.id, .int .i64 v.ro, .int .i64 v.le, .int .i64 v.ht, .int .i64 v.hv, .int .i64 v.co, .int .i64 v.ix, .int .i64 v.te, .slice v.vA v.vn v.vc, .slice v.eA v.en v.ec] : Array Value).all (·.oneCell') = true := all_oneCell_toArray (cs := v.cells) (by
  intro u hu
  simp only [VwV.cells, List.mem_cons, List.not_mem_nil, or_false] at hu
  rcases hu with rfl | rfl | rfl | rfl | rfl | rfl | rfl | rfl | rfl | rfl <;> rfl)
theorem view_there (w : World) : (w.alloc (.cells #[.int .i64 0, .int .i64 0, .int .i64 0, .int .i64 0, .int .i64 0, .int .i64 0, .int .i64 0, .int .i64 0, .slice none 0 0, .slice none 0 0] 59 (0, 0))).there w.heap.size 0 10 := fun j hj => by
  rw [Nat.zero_add]
  refine ⟨?_, blk_frozen (heap_at rfl) j⟩
  rw [blk_cell (heap_at rfl) j]
  simp only [Array.getElem?_eq_getElem (show j < (#[.int .i64 0, .int .i64 0, .int .i64 0, .int .i64 0, .int .i64 0, .int .i64 0, .int .i64 0, .int .i64 0, .slice none 0 0, .slice none 0 0] : Array Value).size from hj), Option.isSome_some]
theorem view_set (w : World) (v : VwV) : Below w.heap.size w ((w.alloc (.cells #[.int .i64 0, .int .i64 0, .int .i64 0, .int .i64 0, .int .i64 0, .int .i64 0, .int .i64 0, .int .i64 0, .slice none 0 0, .slice none 0 0] 59 (0, 0))).setCells w.heap.size 0 [.int .i64 v.id, .int .i64 v.ro, .int .i64 v.le, .int .i64 v.ht, .int .i64 v.hv, .int .i64 v.co, .int .i64 v.ix, .int .i64 v.te, .slice v.vA v.vn v.vc, .slice v.eA v.en v.ec]) ∧ w.heap.size < ((w.alloc (.cells #[.int .i64 0, .int .i64 0, .int .i64 0, .int .i64 0, .int .i64 0, .int .i64 0, .int .i64 0, .int .i64 0, .slice none 0 0, .slice none 0 0] 59 (0, 0))).setCells w.heap.size 0 [.int .i64 v.id, .int .i64 v.ro, .int .i64 v.le, .int .i64 v.ht, .int .i64 v.hv, .int .i64 v.co, .int .i64 v.ix, .int .i64 v.te, .slice v.vA v.vn v.vc, .slice v.eA v.en v.ec]).heap.size ∧ ((w.alloc (.cells #[.int .i64 0, .int .i64 0, .int .i64 0, .int .i64 0, .int .i64 0, .int .i64 0, .int .i64 0, .int .i64 0, .slice none 0 0, .slice none 0 0] 59 (0, 0))).setCells w.heap.size 0 [.int .i64 v.id, .int .i64 v.ro, .int .i64 v.le, .int .i64 v.ht, .int .i64 v.hv, .int .i64 v.co, .int .i64 v.ix, .int .i64 v.te, .slice v.vA v.vn v.vc, .slice v.eA v.en v.ec]).rangeAt w.heap.size 0 [.int .i64 v.id, .int .i64 v.ro, .int .i64 v.le, .int .i64 v.ht, .int .i64 v.hv, .int .i64 v.co, .int .i64 v.ix, .int .i64 v.te, .slice v.vA v.vn v.vc, .slice v.eA v.en v.ec] := by
  have hf : Fr (fun k => k = w.heap.size) (w.alloc (.cells #[.int .i64 0, .int .i64 0, .int .i64 0, .int .i64 0, .int .i64 0, .int .i64 0, .int .i64 0, .int .i64 0, .slice none 0 0, .slice none 0 0] 59 (0, 0))) ((w.alloc (.cells #[.int .i64 0, .int .i64 0, .int .i64 0, .int .i64 0, .int .i64 0, .int .i64 0, .int .i64 0, .int .i64 0, .slice none 0 0, .slice none 0 0] 59 (0, 0))).setCells w.heap.size 0 [.int .i64 v.id, .int .i64 v.ro, .int .i64 v.le, .int .i64 v.ht, .int .i64 v.hv, .int .i64 v.co, .int .i64 v.ix, .int .i64 v.te, .slice v.vA v.vn v.vc, .slice v.eA v.en v.ec]) := fr_setCells w.heap.size [.int .i64 v.id, .int .i64 v.ro, .int .i64 v.le, .int .i64 v.ht, .int .i64 v.hv, .int .i64 v.co, .int .i64 v.ix, .int .i64 v.te, .slice v.vA v.vn v.vc, .slice v.eA v.en v.ec] 0 _
  refine ⟨((Below.refl _ _).alloc (Nat.le_refl _) _).trans (hf.below (by simp) (fun k hk => by omega)), ?_, World.rangeAt_setCells_same _ _ _ _ (view_there w)⟩
  have := hf.size
  simp only [World.size_alloc] at this
  omega
theorem Rd.oneF {w : World} {H : Nat} (hH : w.heap.size = H) (f : Int × Int × Int) (t : TypeId) (fr : Nat × Nat) : Rd (w.alloc (.cells #[.int .i64 f.1, .int .i64 f.2.1, .int .i64 f.2.2] t fr)) (H + 1) 3 (some ⟨H, 0, none⟩) 1 (fiCells f) :=
  Rd.new hH rfl (by
    intro j hj
    simp only [fiCells_len] at hj
    match j, hj with
    | 0, _ => rfl
    | 1, _ => rfl
    | 2, _ => rfl)
theorem fi_one (f : Int × Int × Int) : ∀ u ∈ fiCells f, u.oneCell' = true := by
  intro u hu
  simp only [fiCells, List.mem_cons, List.not_mem_nil, or_false] at hu
  rcases hu with rfl | rfl | rfl <;> rfl
/-- A row of findings of the call's own, and what stands but for it. -/
structure FiIn (base : Nat) (wA wr : World) (A0 A : Option Addr) (c : Nat) (l : List (Int × Int × Int)) : Prop where
  own : wr.ownsRow base 43 3 (.slice A l.length c) l.length (l.flatMap fiCells)
  fr : Fr (fun k => A0.map (·.block) = some k) wA wr
  at_ : ∀ g, A.map (·.block) = some g → A0.map (·.block) = some g ∨ wA.heap.size ≤ g
theorem FiIn.start {base : Nat} {w : World} {A : Option Addr} {c : Nat} {l : List (Int × Int × Int)} (h : w.ownsRow base 43 3 (.slice A l.length c) l.length (l.flatMap fiCells)) : FiIn base w w A A c l := ⟨h, Fr.refl _ _, fun _ h => .inl h⟩
section
variable {base : Nat} {wA wr W : World} {A0 A : Option Addr} {c : Nat} {l : List (Int × Int × Int)}
theorem ownB {A : Option Addr} {n c : Nat} : Value.ownBlock (.slice A n c) = A.map (·.block) := by cases A <;> rfl
theorem FiIn.blk (h : FiIn base wA wr A0 A c l) : ∀ g, A.map (·.block) = some g → base ≤ g ∧ g < wr.heap.size := fun g hg => h.own.lt g (by rw [ownB]; exact hg)
theorem FiIn.below {B : Nat} (h : FiIn base wA wr A0 A c l) (hb : Below B wr W) (hB : wr.heap.size ≤ B) : FiIn base wA W A0 A c l :=
  ⟨own_below h.own (hb.mono hB), h.fr.trans (Fr.of_below (hb.mono hB)), h.at_⟩
theorem FiIn.app {o : Obj} {f : Int × Int × Int} {A9 : Option Addr} {c9 : Nat} {w9 : World} (h : FiIn base wA wr A0 A c l) (hown : w9.ownsRow base 43 3 (.slice A9 (l.length + 1) c9) (l.length + 1) (l.flatMap fiCells ++ fiCells f)) (hg : (wr.alloc o).grownBy w9 (A.map (·.block)))
    (hl : A9.map (·.block) = A.map (·.block) ∨ A9.map (·.block) = some (wr.alloc o).heap.size) : FiIn base wA w9 A0 A9 c9 (l ++ [f]) := by
  have hz := h.fr.size
  have hf : Fr (fun k => A.map (·.block) = some k) (wr.alloc o) w9 := Fr.of_grown hg (fun k hk => hk)
  refine ⟨?_, (h.fr.trans (Fr.of_below ((Below.refl _ _).alloc (Nat.le_refl _) o))).step hf (fun j hj => h.at_ j hj), fun g hg9 => ?_⟩
  · rw [List.length_append, List.flatMap_append]
    simpa using hown
  · rcases hl with hl | hl
    · exact h.at_ g (hl ▸ hg9)
    · rw [hl] at hg9
      simp only [World.size_alloc, Option.some.injEq] at hg9
      exact .inr (by omega)
theorem FiIn.down (h : FiIn base wA wr A0 A c l) (hb : base ≤ wA.heap.size) (h0 : ∀ g, A0.map (·.block) = some g → base ≤ g) : Below base wA wr := h.fr.below hb h0
/-- A row that was grown on another's way. -/
theorem FiIn.on {w2 : World} {A2 : Option Addr} {c2 : Nat} {l2 : List (Int × Int × Int)} (h : FiIn base wA wr A0 A c l) (hb : Below wr.heap.size wr w2) (k : FiIn base w2 W A A2 c2 l2) : FiIn base wA W A0 A2 c2 l2 := by
  have hz := h.fr.size
  have hz2 := hb.size
  refine ⟨k.own, (h.fr.trans (Fr.of_below hb)).step k.fr (fun j hj => h.at_ j hj), fun g hg => ?_⟩
  rcases k.at_ g hg with h1 | h1
  · exact h.at_ g h1
  · exact .inr (by omega)
end
/-- What Look leaves. -/
def ResFi (w : World) (l : List (Int × Int × Int)) (e : Ending) (w' : World) : Prop :=
  ∃ A c, e = .returned (.slice A l.length c) ∧ w'.ownsRow w.heap.size 43 3 (.slice A l.length c) l.length (l.flatMap fiCells) ∧ Below w.heap.size w w'
theorem vw_getD {vs : List VwV} {k : Nat} (h : k < vs.length) : (vs.map VwV.vw).getD k default = (vs[k]).vw := by
  rw [List.getD_eq_getElem?_getD, List.getElem?_map, List.getElem?_eq_getElem h]; rfl
theorem take_snoc' {α : Type} (l : List α) (k : Nat) (h : k < l.length) : l.take (k + 1) = l.take k ++ [l[k]] := List.take_succ_eq_append_getElem h
set_option maxRecDepth 100000 in
set_option maxHeartbeats 8000000 in
theorem look_any (A : Option Addr) (n cap B : Nat) (vs : List VwV) (w : World) (hB : B ≤ w.heap.size) (hbig : n ≤ 1000) (hcap : n ≤ cap) (hbv : ∀ v ∈ vs, v.en ≤ 140737488355328) (hr : RdVw w B A n vs) :
    Calls Tryz.prog 19 #[.slice A n cap] w (ResFi w (lookL (vs.map VwV.vw))) := by
  have hl := hr.len
  subst hl
  obtain ⟨i0, hi0, hz0, hz1, hz2⟩ := info_parts Tryz.infoFinding
  have HR := Lib.hid hr
  have HB0 := Lib.hid hB
  have HBV := Lib.hid hbv
  have HEND : Hid (lookTo (vs.map VwV.vw) vs.length = lookL (vs.map VwV.vw)) := Lib.hid (by unfold lookTo lookL; rw [List.length_map])
  have HNO : Hid (FiIn w.heap.size w w none none 0 []) := Lib.hid (FiIn.start (World.ownsRow_nil _ _ _ _))
  have HLEN : Hid (∀ k, k < vs.length → (lookTo (vs.map VwV.vw) k).length ≤ 4000000) := Lib.hid (fun k hk => by
    have h1 := lookTo_len (vs.map VwV.vw) k
    have h2 : k * (3 * k + 1) ≤ 1000 * 3001 := Nat.mul_le_mul (by omega) (by omega)
    omega)
  clear hr hB hbv
  go_enter Tryz.func19, Tryz.ntmps19
  go_wp2_with fail
  go_loopw [3, 12] (fun o i wr => ∃ (k : Nat) (A1 : Option Addr) (c1 : Nat) (l1 : List (Int × Int × Int)), k ≤ vs.length ∧ i = .int .i64 k ∧ o = .slice A1 l1.length c1 ∧ l1 = lookTo (vs.map VwV.vw) k ∧ FiIn w.heap.size w wr none A1 c1 l1) (fun _ i _ => vs.length - (intOf i).toNat)
  case atStart => exact ⟨0, none, 0, [], by omega, rfl, rfl, rfl, HNO.out⟩
  case round =>
    obtain ⟨k, A1, c1, l1, hk, rfl, rfl, hl1, hin⟩ := hrel
    have HL1 := Lib.hid hl1
    have HI := Lib.hid hin
    have hbw : Below w.heap.size w wr := hin.down (Nat.le_refl _) (fun g h => by cases h)
    have HBW := Lib.hid hbw
    have hzr := hbw.size
    clear hl1 hin hbw
    by_cases hlt : k < vs.length
    · have hk1 : (k : Int) < vs.length := by omega
      obtain ⟨eb, off, hA, heb, hcell, hre⟩ := (HR.out.below HBW.out HB0.out).at_ hlt
      have HLX : Hid (wr.rangeAt eb (off + k * 10) (vs[k]).cells) := Lib.hid (fun j v h => (hcell j (by have h1 := (List.getElem?_eq_some_iff.1 h).1; rw [VwV.cells_len] at h1; exact h1)).trans h)
      have hxn := HBV.out _ (List.getElem_mem hlt)
      have HXL : Hid ((vs[k]).es.length = (vs[k]).en) := Lib.hid hre.len
      have HXR : Hid (∀ W, Below w.heap.size w W → RdEn W B (vs[k]).eA (vs[k]).en (vs[k]).es) := Lib.hid (fun W hW => ((HR.out.below hW HB0.out).2 _ (List.getElem_mem hlt)))
      have HGD : Hid ((vs.map VwV.vw).getD k default = (vs[k]).vw) := Lib.hid (vw_getD hlt)
      have HSUC : Hid (lookTo (vs.map VwV.vw) (k + 1) = l1 ++ findI (vs.map VwV.vw) k) := Lib.hid (by rw [lookTo_succ, ← HL1.out])
      have HFR : Hid (rightB (vs[k]).vw = true → findI (vs.map VwV.vw) k = findTo (vs.map VwV.vw) k k) := Lib.hid (fun h => findI_right (by rw [HGD.out]; exact h))
      have HFW : Hid (rightB (vs[k]).vw = false → findI (vs.map VwV.vw) k = [(1, (k : Int), (k : Int))]) := Lib.hid (fun h => findI_wrong (by rw [HGD.out]; exact h))
      have hll : l1.length ≤ 4000000 := by rw [HL1.out]; exact HLEN.out k hlt
      have hA2 := hA
      subst hA2
      clear hcell hre
      generalize hx : vs[k] = x at *
      have HX := Lib.hid hx
      clear hx
      dsimp only [VwV.cells] at HLX
      go_upto_region 5 with (first | refine wpList_store_mid rfl 59 (.tmp 5) (.tmp 16) rfl wr.heap.size 0 _ rfl rfl (view_there wr) (by kernel_rfl) (view_one x) ?_ | refine wpList_load_mid rfl 59 (.tmp 15) rfl eb (off + k * 10) rfl _ _ HLX.out Tryz.underlying59 rfl (by kernel_rfl) ?_)
      have hset := view_set wr x
      generalize hwx : (wr.alloc (.cells #[.int .i64 0, .int .i64 0, .int .i64 0, .int .i64 0, .int .i64 0, .int .i64 0, .int .i64 0, .int .i64 0, .slice none 0 0, .slice none 0 0] 59 (0, 0))).setCells wr.heap.size 0 [.int .i64 x.id, .int .i64 x.ro, .int .i64 x.le, .int .i64 x.ht, .int .i64 x.hv, .int .i64 x.co, .int .i64 x.ix, .int .i64 x.te, .slice x.vA x.vn x.vc, .slice x.eA x.en x.ec] = wx at *
      obtain ⟨hbx, hzx, hra⟩ := hset
      have HBX := Lib.hid hbx
      have HIX : Hid (FiIn w.heap.size w wx none A1 c1 l1) := Lib.hid (HI.out.below hbx (Nat.le_refl _))
      have HRA := Lib.hid hra
      have hrt := right_any x wx HXL.out hxn
      have HRT := Lib.hid hrt
      clear hwx hbx hra hrt HLX
      go_upto_region 6 with (first | refine wpList_load_mid rfl 59 (.tmp 5) rfl wr.heap.size 0 rfl _ _ HRA.out Tryz.underlying59 rfl (by kernel_rfl) ?_)
      refine HRT.out.mono ?_
      rintro e w1 ⟨rfl, hb1⟩
      have HI1 : Hid (FiIn w.heap.size w w1 none A1 c1 l1) := Lib.hid (HIX.out.below hb1 (Nat.le_refl _))
      have hz1' := hb1.size
      have HRA1 : Hid (w1.rangeAt wr.heap.size 0 [.int .i64 x.id, .int .i64 x.ro, .int .i64 x.le, .int .i64 x.ht, .int .i64 x.hv, .int .i64 x.co, .int .i64 x.ix, .int .i64 x.te, .slice x.vA x.vn x.vc, .slice x.eA x.en x.ec]) := Lib.hid (fun j v h => (hb1.cell (p := ⟨wr.heap.size, 0 + j, none⟩) hzx).trans (HRA.out j v h))
      have hAB : ∀ g, A1.map (·.block) = some g → g < wr.heap.size := fun g hg => (HI.out.blk g hg).2
      have HAB := Lib.hid hAB
      have HB1 : Hid (Below w.heap.size w w1) := Lib.hid (HI1.out.down (Nat.le_refl _) (fun g h => by cases h))
      clear hb1 hAB
      cases hrb : rightB x.vw with
      | false =>
        have HS2 : Hid (lookTo (vs.map VwV.vw) (k + 1) = l1 ++ [(1, (k : Int), (k : Int))]) := Lib.hid (by rw [HSUC.out, HFW.out hrb])
        go_wp2_with (at_builtin; refine wpList_app _ rfl (.tmp 20) (.tmp 24) _ rfl w.heap.size 43 i0 _ 3 24 Tryz.underlying41 hi0 hz0 hz1 hz2 rfl (by omega) _ _ _ _ rfl (HI1.out.own.alloc _) (w1.heap.size + 1) _ 1 _ _ rfl (Rd.oneF rfl (1, (k : Int), (k : Int)) _ _) (fi_one (1, (k : Int), (k : Int))) (by unfold maxLen; omega) (by omega) (by simp <;> omega) ?_; intro A9 c9 w9 hown9 hg9 hl9)
        have HST := Lib.hid (HI1.out.app hown9 hg9 hl9)
        clear hown9 hg9 hl9
        go_roundw
        case rel => exact ⟨k + 1, A9, c9, l1 ++ [(1, (k : Int), (k : Int))], by omega, by go_num, by simp, HS2.out.symm, HST.out⟩
        case measure => simp [intOf]; omega
      | true =>
        have HRB := Lib.hid hrb
        have HS2 : Hid (lookTo (vs.map VwV.vw) (k + 1) = l1 ++ findTo (vs.map VwV.vw) k k) := Lib.hid (by rw [HSUC.out, HFR.out hrb])
        have hk0 : (0 : Int) ≤ (k : Int) := by omega
        have hkc : (k : Int) ≤ (cap : Int) := by omega
        have HIN0 : Hid (FiIn w.heap.size w1 w1 A1 A1 c1 l1) := Lib.hid (FiIn.start HI1.out.own)
        clear hrb
        go_wp2_with fail
        obtain ⟨wB, rfl⟩ : ∃ wB, wB = wr := ⟨_, rfl⟩
        go_loopw [3, 30] (fun o i wr => ∃ (k2 : Nat) (A2 : Option Addr) (c2 : Nat) (l2 : List (Int × Int × Int)), k2 ≤ k ∧ i = .int .i64 k2 ∧ o = .slice A2 l2.length c2 ∧ l2 = l1 ++ findTo (vs.map VwV.vw) k k2 ∧ FiIn w.heap.size w1 wr A1 A2 c2 l2) (fun _ i _ => k - (intOf i).toNat)
        case atStart => exact ⟨0, A1, c1, l1, by omega, rfl, rfl, by simp [findTo], HIN0.out⟩
        case round =>
          obtain ⟨k2, A2, c2, l2, hk2, rfl, rfl, hl2, hin2⟩ := hrel
          have HL2 := Lib.hid hl2
          have HI2 := Lib.hid hin2
          have hll2 : l2.length ≤ 4010000 := by
            have h1 := findTo_len (vs.map VwV.vw) k k2
            rw [hl2, List.length_append]; omega
          have HFRA : Hid (∀ W, Fr (fun j => A1.map (·.block) = some j) w1 W → W.rangeAt wB.heap.size 0 [.int .i64 x.id, .int .i64 x.ro, .int .i64 x.le, .int .i64 x.ht, .int .i64 x.hv, .int .i64 x.co, .int .i64 x.ix, .int .i64 x.te, .slice x.vA x.vn x.vc, .slice x.eA x.en x.ec]) := Lib.hid (fun W hW j v h => by
            rw [← HRA1.out j v h]
            have hb := hW.block wB.heap.size (by omega) (fun hs => by have := HAB.out _ hs; omega)
            simp only [World.cell?, hb])
          have hbw2 : Below w.heap.size w wr := HB1.out.trans (hin2.down (by have := HB1.out.size; omega) (fun g hg => (HI1.out.blk g hg).1))
          have HBW2 := Lib.hid hbw2
          have hzr2 := hbw2.size
          have hz12 := hin2.fr.size
          clear hl2 hin2 hbw2
          by_cases hlt2 : k2 < k
          · have hk21 : (k2 : Int) < (k : Int) := by omega
            have hlv : k2 < vs.length := by omega
            obtain ⟨yb, yoff, hYA, hyb, hycell, hyre⟩ := (HR.out.below HBW2.out HB0.out).at_ hlv
            cases hYA
            have HLY : Hid (wr.rangeAt eb (off + k2 * 10) (vs[k2]).cells) := Lib.hid (fun j v h => (hycell j (by have h1 := (List.getElem?_eq_some_iff.1 h).1; rw [VwV.cells_len] at h1; exact h1)).trans h)
            have hyn := HBV.out _ (List.getElem_mem hlv)
            have HYL : Hid ((vs[k2]).es.length = (vs[k2]).en) := Lib.hid hyre.len
            have HYR : Hid (∀ W, Below w.heap.size w W → RdEn W B (vs[k2]).eA (vs[k2]).en (vs[k2]).es) := Lib.hid (fun W hW => ((HR.out.below hW HB0.out).2 _ (List.getElem_mem hlv)))
            have HFK : Hid (findK (vs.map VwV.vw) k k2 = if rightB (vs[k2]).vw then (twoL x.vw (vs[k2]).vw).map fun z => (z, (k2 : Int), (k : Int)) else []) := Lib.hid (by
              unfold findK
              rw [HGD.out, vw_getD hlv])
            clear hycell hyre
            generalize hy : vs[k2] = y at *
            clear hy
            dsimp only [VwV.cells] at HLY
            go_upto_region 10 with (first | refine wpList_store_mid rfl 59 (.tmp 7) (.tmp 34) rfl wr.heap.size 0 _ rfl rfl (view_there wr) (by kernel_rfl) (view_one y) ?_ | refine wpList_load_mid rfl 59 (.tmp 33) rfl eb (off + k2 * 10) rfl _ _ HLY.out Tryz.underlying59 rfl (by kernel_rfl) ?_)
            have hset := view_set wr y
            generalize hwx : (wr.alloc (.cells #[.int .i64 0, .int .i64 0, .int .i64 0, .int .i64 0, .int .i64 0, .int .i64 0, .int .i64 0, .int .i64 0, .slice none 0 0, .slice none 0 0] 59 (0, 0))).setCells wr.heap.size 0 [.int .i64 y.id, .int .i64 y.ro, .int .i64 y.le, .int .i64 y.ht, .int .i64 y.hv, .int .i64 y.co, .int .i64 y.ix, .int .i64 y.te, .slice y.vA y.vn y.vc, .slice y.eA y.en y.ec] = wy at *
            obtain ⟨hby, hzy, hrb2⟩ := hset
            have HIY : Hid (FiIn w.heap.size w1 wy A1 A2 c2 l2) := Lib.hid (HI2.out.below hby (Nat.le_refl _))
            have HRBY := Lib.hid hrb2
            have hrt := right_any y wy HYL.out hyn
            have HRT2 := Lib.hid hrt
            clear hwx hby hrb2 hrt HLY
            go_upto_region 11 with (first | refine wpList_load_mid rfl 59 (.tmp 7) rfl wr.heap.size 0 rfl _ _ HRBY.out Tryz.underlying59 rfl (by kernel_rfl) ?_)
            refine HRT2.out.mono ?_
            rintro e w2 ⟨rfl, hb2⟩
            have HI3 : Hid (FiIn w.heap.size w1 w2 A1 A2 c2 l2) := Lib.hid (HIY.out.below hb2 (Nat.le_refl _))
            have HRY2 : Hid (w2.rangeAt wr.heap.size 0 [.int .i64 y.id, .int .i64 y.ro, .int .i64 y.le, .int .i64 y.ht, .int .i64 y.hv, .int .i64 y.co, .int .i64 y.ix, .int .i64 y.te, .slice y.vA y.vn y.vc, .slice y.eA y.en y.ec]) := Lib.hid (fun j v h => (hb2.cell (p := ⟨wr.heap.size, 0 + j, none⟩) hzy).trans (HRBY.out j v h))
            have HRX2 : Hid (w2.rangeAt wB.heap.size 0 [.int .i64 x.id, .int .i64 x.ro, .int .i64 x.le, .int .i64 x.ht, .int .i64 x.hv, .int .i64 x.co, .int .i64 x.ix, .int .i64 x.te, .slice x.vA x.vn x.vc, .slice x.eA x.en x.ec]) := Lib.hid (HFRA.out w2 HI3.out.fr)
            have hz2' := hb2.size
            have HB2 : Hid (Below w.heap.size w w2) := Lib.hid (HB1.out.trans (HI3.out.down (by have := HB1.out.size; omega) (fun g hg => (HI1.out.blk g hg).1)))
            clear hb2
            cases hry : rightB y.vw with
            | false =>
              have HNX : Hid (l1 ++ findTo (vs.map VwV.vw) k (k2 + 1) = l2) := Lib.hid (by rw [findTo_succ, HFK.out, hry, HL2.out]; simp)
              go_wp2_with fail
              go_roundw
              case rel => exact ⟨k2 + 1, A2, c2, l2, by omega, by go_num, rfl, HNX.out.symm, HI3.out⟩
              case measure => simp [intOf]; omega
            | true =>
              have HNX : Hid (l1 ++ findTo (vs.map VwV.vw) k (k2 + 1) = l2 ++ (twoL x.vw y.vw).map fun z => (z, (k2 : Int), (k : Int))) := Lib.hid (by rw [findTo_succ, HFK.out, hry, HL2.out]; simp)
              have HTWO : Hid (Calls Tryz.prog 38 #[x.val, y.val] w2 (ResZ w2 (twoL x.vw y.vw))) := Lib.hid (two_any x y B (by have := HB0.out; have := HB2.out.size; omega) (HXR.out w2 HB2.out) (HYR.out w2 HB2.out) hxn hyn HRB.out hry)
              have HTL := Lib.hid (twoL_len x.vw y.vw)
              generalize twoL x.vw y.vw = tl at *
              clear hry
              go_wp2_with (first | refine wpList_load_mid rfl 59 (.tmp 5) rfl wB.heap.size 0 rfl _ _ HRX2.out Tryz.underlying59 rfl (by kernel_rfl) ?_ | refine wpList_load_mid rfl 59 (.tmp 7) rfl wr.heap.size 0 rfl _ _ HRY2.out Tryz.underlying59 rfl (by kernel_rfl) ?_)
              refine HTWO.out.mono ?_
              rintro e w3 ⟨A7, c7, rfl, hown7, hb3⟩
              have HI4 : Hid (FiIn w.heap.size w1 w3 A1 A2 c2 l2) := Lib.hid (HI3.out.below hb3 (Nat.le_refl _))
              have HRZ : Hid (RdI w3 w3.heap.size A7 tl.length tl) := Lib.hid (Rd.of_own hown7)
              have HA7 : Hid (∀ g, A7.map (·.block) = some g → w2.heap.size ≤ g) := Lib.hid (fun g hg => (hown7.lt g (by rw [ownB]; exact hg)).1)
              have HIN5 : Hid (FiIn w.heap.size w3 w3 A2 A2 c2 l2) := Lib.hid (FiIn.start HI4.out.own)
              have HA2 : Hid (∀ g, A2.map (·.block) = some g → g < w2.heap.size) := Lib.hid (fun g hg => (HI3.out.blk g hg).2)
              have htl := HTL.out
              clear hown7 hb3
              go_wp2_with fail
              obtain ⟨wC, rfl⟩ : ∃ wC, wC = wr := ⟨_, rfl⟩
              go_loopw [3, 42] (fun o i wr => ∃ (k3 : Nat) (A3 : Option Addr) (c3 : Nat) (l3 : List (Int × Int × Int)), k3 ≤ tl.length ∧ i = .int .i64 k3 ∧ o = .slice A3 l3.length c3 ∧ l3 = l2 ++ (tl.take k3).map (fun z => (z, (k2 : Int), (k : Int))) ∧ FiIn w.heap.size w3 wr A2 A3 c3 l3) (fun _ i _ => tl.length - (intOf i).toNat)
              case atStart => exact ⟨0, A2, c2, l2, by omega, rfl, rfl, by simp, HIN5.out⟩
              case round =>
                obtain ⟨k3, A3, c3, l3, hk3, rfl, rfl, hl3, hin3⟩ := hrel
                have HL3 := Lib.hid hl3
                have HI5 := Lib.hid hin3
                have hll3 : l3.length ≤ 4010003 := by rw [hl3, List.length_append, List.length_map, List.length_take]; omega
                have hz3 := hin3.fr.size
                have hrz := Fr.rdA HRZ.out hin3.fr (Nat.le_refl _) (fun g hg hs => by
                  have h1 := HA7.out g hg
                  have h2 := HA2.out g hs
                  omega)
                have HRZ3 : Hid (RdI wr w3.heap.size A7 tl.length tl) := Lib.hid hrz
                have hbz : Below w.heap.size w wr := HB1.out.trans ((HI4.out.on (Below.refl _ _) hin3).down (by have := HB1.out.size; omega) (fun g hg => (HI1.out.blk g hg).1))
                have hwz := hbz.size
                clear hl3 hin3 hrz hbz
                by_cases hlt3 : k3 < tl.length
                · have hk31 : (k3 : Int) < tl.length := by omega
                  obtain ⟨zb, zoff, hA7, hzb, z0⟩ := HRZ3.out.at_ hlt3
                  cases hA7
                  have HTK : Hid (l2 ++ (tl.take (k3 + 1)).map (fun z => (z, (k2 : Int), (k : Int))) = l3 ++ [(tl[k3], (k2 : Int), (k : Int))]) := Lib.hid (by rw [take_snoc' tl k3 hlt3, List.map_append, HL3.out]; simp)
                  generalize tl[k3] = z at *
                  go_wp2_with (at_builtin; refine wpList_app _ rfl (.tmp 46) (.tmp 51) _ rfl w.heap.size 43 i0 _ 3 24 Tryz.underlying41 hi0 hz0 hz1 hz2 rfl (by omega) _ _ _ _ rfl (HI5.out.own.alloc _) (wr.heap.size + 1) _ 1 _ _ rfl (Rd.oneF rfl (z, (k2 : Int), (k : Int)) _ _) (fi_one (z, (k2 : Int), (k : Int))) (by unfold maxLen; omega) (by omega) (by simp <;> omega) ?_; intro A9 c9 w9 hown9 hg9 hl9)
                  have HST := Lib.hid (HI5.out.app hown9 hg9 hl9)
                  clear hown9 hg9 hl9
                  go_roundw
                  case rel => exact ⟨k3 + 1, A9, c9, l3 ++ [(z, (k2 : Int), (k : Int))], by omega, by go_num, by simp, HTK.out.symm, HST.out⟩
                  case measure => simp [intOf]; omega
                · have hk31 : ¬ (k3 : Int) < tl.length := by omega
                  have HDONE : Hid (l3 = l1 ++ findTo (vs.map VwV.vw) k (k2 + 1)) := Lib.hid (by rw [HNX.out, HL3.out, List.take_of_length_le (by omega)])
                  have HIF : Hid (FiIn w.heap.size w1 wr A1 A3 c3 l3) := Lib.hid (HI4.out.on (Below.refl _ _) HI5.out)
                  go_wp2_with fail
                  go_roundw
                  case rel => exact ⟨k2 + 1, A3, c3, l3, by omega, by go_num, rfl, HDONE.out, HIF.out⟩
                  case measure => simp [intOf]; omega
          · have hk21 : ¬ (k2 : Int) < (k : Int) := by omega
            obtain rfl : k2 = k := by omega
            have HDONE : Hid (l2 = lookTo (vs.map VwV.vw) (k2 + 1)) := Lib.hid (by rw [HS2.out, HL2.out])
            have HIF : Hid (FiIn w.heap.size w wr none A2 c2 l2) := Lib.hid (HI1.out.on (Below.refl _ _) HI2.out)
            go_wp2_with fail
            go_roundw
            case rel => exact ⟨k2 + 1, A2, c2, l2, by omega, by go_num, rfl, HDONE.out, HIF.out⟩
            case measure => simp [intOf]; omega
    · have hk1 : ¬ (k : Int) < vs.length := by omega
      obtain rfl : k = vs.length := by omega
      have HL : Hid (l1 = lookL (vs.map VwV.vw)) := Lib.hid (HL1.out.trans HEND.out)
      go_wp2_with fail
      go_ret
      rw [← HL.out]
      exact ⟨A1, c1, rfl, HI.out.own, HBW.out⟩
end Go.Proofs.YtfjpenbahoeklaaGreatDoor
