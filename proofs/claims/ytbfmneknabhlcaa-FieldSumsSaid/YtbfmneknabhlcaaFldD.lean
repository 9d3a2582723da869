/- Numbers modulo p: what is not 0 can be divided by. -/
import Derived.Test.YtbfmneknabhlcaaFldK
import Derived.Test.YtbfmneknabhlcaaFldN
set_option linter.unusedVariables false
set_option linter.unusedSimpArgs false
open Go Go.Sx Go.Fld Go.Proofs Go.Dg
namespace Go.Fc
theorem pr_p : Nt.Pr pN := Nt.prP
theorem dvd_iff (a : Int) : a % p = 0 ↔ pN ∣ (a % p).toNat := by
  have h0 : 0 ≤ a % p := Int.emod_nonneg _ (by decide)
  have h1 : a % p < p := Int.emod_lt_of_pos _ p_pos
  rw [p_pN] at *
  constructor
  · intro h; rw [h]; exact Nat.dvd_zero _
  · intro h
    rcases Nat.eq_zero_or_pos (a % (pN : Int)).toNat with e | e
    · omega
    · have := Nat.le_of_dvd e h; omega
theorem mul_zero_or {x y : Int} (h : x * y % p = 0) : x % p = 0 ∨ y % p = 0 := by
  have hx0 : 0 ≤ x % p := Int.emod_nonneg _ (by decide)
  have hy0 : 0 ≤ y % p := Int.emod_nonneg _ (by decide)
  have h2 : (x % p) * (y % p) % p = 0 := by rw [← Int.mul_emod]; exact h
  obtain ⟨X, hX⟩ := Int.eq_ofNat_of_zero_le hx0
  obtain ⟨Y, hY⟩ := Int.eq_ofNat_of_zero_le hy0
  rw [hX, hY, p_pN, ← Int.natCast_mul, ← Int.natCast_emod] at h2
  have hd : pN ∣ X * Y := Nat.dvd_of_mod_eq_zero (by omega)
  rcases pr_p.dvd_mul hd with h3 | h3
  · left; rw [dvd_iff, hX]; simpa using h3
  · right; rw [dvd_iff, hY]; simpa using h3
theorem pow_arg (a : Int) (e : Nat) : (a % p) ^ e % p = a ^ e % p := by
  induction e with
  | zero => rw [Int.pow_zero, Int.pow_zero]
  | succ e ih => rw [Int.pow_succ, Int.pow_succ, Int.mul_emod, ih, Int.emod_emod_of_dvd a (Int.dvd_refl p), ← Int.mul_emod]
theorem fermatI {a : Int} (h : a % p ≠ 0) : a ^ (pN - 1) % p = 1 := by
  have h0 : 0 ≤ a % p := Int.emod_nonneg _ (by decide)
  have hd : ¬ pN ∣ (a % p).toNat := fun hd => h ((dvd_iff a).2 hd)
  obtain ⟨n, hn⟩ := Int.eq_ofNat_of_zero_le h0
  have hf := Nt.fermat pr_p hd
  rw [← pow_arg]
  rw [hn] at hf ⊢
  rw [Int.toNat_natCast] at hf
  rw [p_pN, ← Int.natCast_pow, ← Int.natCast_emod, hf]
  rfl
theorem pw_arg (a : Int) (e : Nat) : pw (a % p) e = pw a e := by
  unfold pw; rw [Int.emod_emod_of_dvd a (Int.dvd_refl p)]
theorem e2_lt : pN - 2 < 2 ^ 256 := by have := pN_lt; omega
theorem inv_mul {a : Int} (h : a % p ≠ 0) : a * pw a (pN - 2) % p = 1 := by
  rw [← emR, pw_mod a e2_lt, emR]
  have : a * a ^ (pN - 2) = a ^ (pN - 1) := by
    rw [Int.mul_comm, ← Int.pow_succ]; rfl
  rw [this, fermatI h]
theorem inv_zero {a : Int} (h : a % p = 0) : pw a (pN - 2) % p = 0 := by
  rw [pw_mod a e2_lt, ← pow_arg, h]
  have : (0 : Int) ^ (pN - 2) = 0 := Int.zero_pow (by decide)
  rw [this]; rfl
theorem inv_ne {a : Int} (h : a % p ≠ 0) : pw a (pN - 2) % p ≠ 0 := fun e => by
  have := inv_mul h
  rw [← emR, e, Int.mul_zero] at this
  exact absurd this (by decide)
theorem inv_inv {a : Int} (h : a % p ≠ 0) : pw (pw a (pN - 2)) (pN - 2) % p = a % p := by
  have h1 := inv_mul h
  have h2 := inv_mul (inv_ne h)
  generalize pw a (pN - 2) = u at *
  generalize pw u (pN - 2) = v at *
  have e1 : a * (u * v) % p = a % p := by rw [← emR, h2]; simp
  have e2 : a * (u * v) % p = v % p := by rw [← Int.mul_assoc, ← emL, h1]; simp
  rw [← e1, e2]
end Go.Fc
