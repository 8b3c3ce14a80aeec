/-
  A number's groups of seven bits, the highest one first: the plain side. No condition.
-/
import Derived.Test.YtdjcifeoplgkpaaPure
namespace Go.Proofs.Ytdjcifeoplgkpaa

/-- The groups ahead of the last one, each with its mark. -/
def dhi (n : Nat) : List UInt8 := if n = 0 then [] else dhi (n / 128) ++ [UInt8.ofNat (n % 128 + 128)]
termination_by n
decreasing_by omega
/-- A number as bytes. -/
def digits (n : Nat) : List UInt8 := dhi (n / 128) ++ [UInt8.ofNat (n % 128)]
theorem dhi_zero : dhi 0 = [] := by rw [dhi]; simp
theorem dhi_pos {n : Nat} (h : 0 < n) : dhi n = dhi (n / 128) ++ [UInt8.ofNat (n % 128 + 128)] := by
  rw [dhi, if_neg (by omega)]
theorem dhi_len (k : Nat) : ∀ n, n < 128 ^ k → (dhi n).length ≤ k := by
  induction k with
  | zero => intro n h; obtain rfl : n = 0 := by simpa using h
            rw [dhi_zero]; simp
  | succ k ih =>
    intro n h
    by_cases h0 : n = 0
    · subst h0; rw [dhi_zero]; simp
    · rw [dhi_pos (by omega)]
      have := ih (n / 128) (by rw [Nat.div_lt_iff_lt_mul (by omega)]; rw [Nat.pow_succ] at h; exact h)
      simp; omega
theorem digits_len {n : Nat} (h : n < 9223372036854775808) : 1 ≤ (digits n).length ∧ (digits n).length ≤ 9 := by
  have := dhi_len 8 (n / 128) (by omega)
  simp [digits]; omega
end Go.Proofs.Ytdjcifeoplgkpaa
