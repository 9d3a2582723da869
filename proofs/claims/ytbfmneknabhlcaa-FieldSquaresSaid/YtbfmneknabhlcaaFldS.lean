/- Numbers modulo p: which numbers have roots. -/
import Derived.Test.YtbfmneknabhlcaaFldV
set_option linter.unusedVariables false
set_option linter.unusedSimpArgs false
open Go Go.Sx Go.Fld Go.Proofs Go.Dg
namespace Go.Fc
def eH : Nat := (pN - 1) / 2
def eQ : Nat := (pN - 1) / 4
/-- Euler's test. -/
def chi (a : Int) : Int := a ^ eH % p
theorem im_sq : im * im % p = -1 % p := by decide +kernel
theorem chi_two : chi 2 = -1 % p := by
  unfold chi
  have h := pw_mod 2 (show eH < 2 ^ 256 by have := pN_lt; unfold eH; omega)
  rw [← h]
  decide +kernel
theorem mod_sub {x y : Int} : x % p = y % p ↔ (x - y) % p = 0 := Int.emod_eq_emod_iff_emod_sub_eq_zero
theorem two_ne {a : Int} (h : a % p ≠ 0) : a % p ≠ (-a) % p := fun e => by
  rw [mod_sub] at e
  have : a - -a = 2 * a := by omega
  rw [this] at e
  rcases mul_zero_or e with h1 | h1
  · exact absurd h1 (by decide)
  · exact h h1
theorem sq_one {x : Int} (h : x * x % p = 1 % p) : x % p = 1 % p ∨ x % p = -1 % p := by
  rw [mod_sub] at h
  have : x * x - 1 = (x - 1) * (x - -1) := by grind
  rw [this] at h
  rcases mul_zero_or h with h1 | h1
  · exact .inl (mod_sub.2 h1)
  · exact .inr (mod_sub.2 h1)
theorem eH_two : eH * 2 = pN - 1 := by decide
theorem eQ_two : eQ * 2 = eH := by decide
theorem eR_two : eR * 2 = 1 + eQ := by decide
theorem pow_two (a : Int) (n : Nat) : a ^ n * a ^ n = a ^ (n * 2) := by rw [← Int.pow_add]; congr 1; omega
theorem chi_or {a : Int} (h : a % p ≠ 0) : chi a = 1 % p ∨ chi a = -1 % p := by
  refine sq_one ?_
  rw [pow_two, eH_two, fermatI h]; rfl
theorem chi_mul (a b : Int) : chi (a * b) = chi a * chi b % p := by
  unfold chi
  rw [Int.mul_pow, Int.mul_emod]
theorem chi_arg (a : Int) : chi (a % p) = chi a := pow_arg a eH
/-- The first number that is tried, squared. -/
theorem first_sq (a : Int) : pw a eR * pw a eR % p = a * a ^ eQ % p := by
  have h := pw_mod a (show eR < 2 ^ 256 by have := pN_lt; unfold eR; omega)
  rw [← emL, ← emR, h, emL, emR, pow_two, eR_two, Int.pow_add]
  rw [show a ^ 1 = a from by rw [Int.pow_succ, Int.pow_zero, Int.one_mul]]
theorem quarter (a : Int) : a ^ eQ * a ^ eQ % p = chi a := by rw [pow_two, eQ_two]; rfl
theorem mul_cong {x y z w : Int} (h1 : x % p = y % p) (h2 : z % p = w % p) : x * z % p = y * w % p := by rw [Int.mul_emod, h1, h2, ← Int.mul_emod]
theorem sec_sq (a : Int) : (pw a eR * im) * (pw a eR * im) % p = (-(a * a ^ eQ)) % p := by
  have : (pw a eR * im) * (pw a eR * im) = (pw a eR * pw a eR) * (im * im) := by grind
  rw [this, mul_cong (first_sq a) im_sq]
  congr 1; grind
theorem hasR_zero {a : Int} (h : a % p = 0) : hasR a = true ∧ try1 a * try1 a % p = a % p := by
  have e : pw a eR * pw a eR % p = a % p := by rw [first_sq, h, ← emL, h]; simp
  have ht : try1 a = pw a eR := by unfold try1; rw [if_pos e]
  unfold hasR
  rw [ht]
  exact ⟨decide_eq_true e, e⟩
theorem neg_cong {x y : Int} (h : x % p = y % p) : (-x) % p = (-y) % p := by rw [← enR, h, enR]
theorem hasR_one {a : Int} (h0 : a % p ≠ 0) (h : chi a = 1 % p) : hasR a = true := by
  have hq := quarter a
  rw [h] at hq
  unfold hasR
  refine decide_eq_true ?_
  rcases sq_one hq with h1 | h1
  · have e : pw a eR * pw a eR % p = a % p := by rw [first_sq, ← emR, h1]; simp [one_mod]
    have ht : try1 a = pw a eR := by unfold try1; rw [if_pos e]
    rw [ht]; exact e
  · have e : pw a eR * pw a eR % p = (-a) % p := by
      rw [first_sq, mul_cong rfl h1]; congr 1; omega
    have hne : ¬ pw a eR * pw a eR % p = a % p := by rw [e]; exact fun e' => two_ne h0 e'.symm
    have ht : try1 a = pw a eR * im := by unfold try1; rw [if_neg hne]
    rw [ht, sec_sq, neg_cong (mul_cong (rfl : a % p = a % p) h1)]
    congr 1; omega
theorem cancel {a x y : Int} (h0 : a % p ≠ 0) (h : a * x % p = a * y % p) : x % p = y % p := by
  rw [mod_sub] at h ⊢
  rw [← Int.mul_sub] at h
  exact (mul_zero_or h).resolve_left h0
theorem one_ne : (1 : Int) % p ≠ -1 % p := by decide
theorem hasR_minus {a : Int} (h0 : a % p ≠ 0) (h : chi a = -1 % p) : hasR a = false := by
  have hq := quarter a
  rw [h] at hq
  have no : ∀ x : Int, x % p = 1 % p ∨ x % p = -1 % p → x * x % p ≠ -1 % p := fun x hx e => by
    rcases hx with hx | hx
    · rw [mul_cong hx hx] at e; exact one_ne e
    · rw [mul_cong hx hx] at e; exact one_ne (by simpa using e)
  have n1 : ¬ pw a eR * pw a eR % p = a % p := fun e => by
    rw [first_sq] at e
    have : a * a ^ eQ % p = a * 1 % p := by rw [e, Int.mul_one]
    exact no _ (.inl (cancel h0 this)) hq
  have ht : try1 a = pw a eR * im := by unfold try1; rw [if_neg n1]
  unfold hasR
  refine decide_eq_false ?_
  rw [ht, sec_sq]
  intro e
  have : a * a ^ eQ % p = a * -1 % p := by
    have := neg_cong e
    rw [Int.neg_neg] at this
    rw [this]; congr 1; omega
  exact no _ (.inr (cancel h0 this)) hq
theorem hasR_iff {a : Int} (h0 : a % p ≠ 0) : hasR a = true ↔ chi a = 1 % p := by
  constructor
  · intro h
    rcases chi_or h0 with e | e
    · exact e
    · rw [hasR_minus h0 e] at h; exact nomatch h
  · exact hasR_one h0
theorem mul_ne {a b : Int} (ha : a % p ≠ 0) (hb : b % p ≠ 0) : a * b % p ≠ 0 := fun h => (mul_zero_or h).elim ha hb
theorem hasR_mul {a b : Int} (ha : a % p ≠ 0) (hb : b % p ≠ 0) : hasR (a * b) = (hasR a == hasR b) := by
  have hab := mul_ne ha hb
  have hm := chi_mul a b
  rcases chi_or ha with e1 | e1 <;> rcases chi_or hb with e2 | e2 <;> rw [e1, e2] at hm
  · rw [hasR_one ha e1, hasR_one hb e2, hasR_one hab (by rw [hm]; decide)]; rfl
  · rw [hasR_one ha e1, hasR_minus hb e2, hasR_minus hab (by rw [hm]; decide)]; rfl
  · rw [hasR_minus ha e1, hasR_one hb e2, hasR_minus hab (by rw [hm]; decide)]; rfl
  · rw [hasR_minus ha e1, hasR_minus hb e2, hasR_one hab (by rw [hm]; decide)]; rfl
theorem hasR_twice {a : Int} (ha : a % p ≠ 0) : hasR (a + a) = !hasR a := by
  have h2 : (2 : Int) % p ≠ 0 := by decide
  have : a + a = 2 * a := by omega
  rw [this, hasR_mul h2 ha, hasR_minus h2 chi_two]
  cases hasR a <;> rfl
theorem hasR_sq (a : Int) : hasR (a * a) = true := by
  by_cases h : a % p = 0
  · exact (hasR_zero (by rw [← emL, h]; simp)).1
  · rw [hasR_mul h h]; simp
theorem try1_arg (a : Int) : try1 (a % p) = try1 a := by
  unfold try1; rw [pw_arg, eeR]
theorem hasR_arg (a : Int) : hasR (a % p) = hasR a := by
  unfold hasR; rw [try1_arg, eeR]
theorem rootV_arg (a : Int) : rootV (a % p) = rootV a := by
  unfold rootV; rw [try1_arg, eeR]
theorem rootV_sq {a : Int} (h : hasR a = true) : rootV a * rootV a % p = a % p := by
  have h : try1 a * try1 a % p = a % p := of_decide_eq_true h
  unfold rootV
  rw [if_pos h]
  split
  · rw [show -try1 a * -try1 a = try1 a * try1 a by grind]; exact h
  · exact h
theorem rootV_none {a : Int} (h : hasR a = false) : rootV a = 0 := by
  have h : ¬ try1 a * try1 a % p = a % p := of_decide_eq_false h
  unfold rootV
  rw [if_neg h]
theorem neg_odd {t : Int} (h : t % p % 2 = 1) : (-t) % p % 2 = 0 := by
  have h0 : 0 ≤ t % p := Int.emod_nonneg _ (by decide)
  have h1 : t % p < p := Int.emod_lt_of_pos _ p_pos
  have hne : t % p ≠ 0 := fun e => by rw [e] at h; exact absurd h (by decide)
  rw [← enR]
  generalize t % p = x at *
  have e : (-x) % p = p - x := by
    rw [← Int.add_emod_right (-x) p]
    rw [Int.emod_eq_of_lt (by omega) (by omega)]; omega
  rw [e]; unfold p at *; omega
theorem rootV_even (a : Int) : rootV a % p % 2 = 0 := by
  unfold rootV
  split
  · split
    · rename_i h; exact neg_odd h
    · rename_i h; omega
  · rfl
theorem root_of_sq (a : Int) : rootV (a * a) % p = a % p ∨ rootV (a * a) % p = (-a) % p := by
  have h := rootV_sq (hasR_sq a)
  generalize rootV (a * a) = r at *
  rw [mod_sub] at h
  have : r * r - a * a = (r - a) * (r - -a) := by grind
  rw [this] at h
  rcases mul_zero_or h with h1 | h1
  · exact .inl (mod_sub.2 h1)
  · exact .inr (mod_sub.2 h1)
end Go.Fc
