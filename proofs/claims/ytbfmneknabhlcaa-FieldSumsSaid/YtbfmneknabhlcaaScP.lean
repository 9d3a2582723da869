/- Digits of a number, sums digit by digit. -/
import Derived.Test.YtbfmneknabhlcaaSxS
set_option linter.unusedVariables false
namespace Go.Dg

/-- The sum of so many digits, the lowest first. -/
def sm (b : Int) (t : Nat → Int) : Nat → Int
  | 0 => 0
  | i + 1 => sm b t i + t i * b ^ i
def dig (b n : Int) (q : Nat) : Int := n / b ^ q % b

section
variable {b : Int} {t u : Nat → Int}

theorem pw (hb : 0 < b) (i : Nat) : 0 < b ^ i := Int.pow_pos hb

theorem carry_div (hb : 0 < b) (t : Nat → Int) (i : Nat) : (t i + sm b t i / b ^ i) / b = sm b t (i + 1) / b ^ (i + 1) := by
  have h := pw hb i
  rw [sm, Int.pow_succ, ← Int.ediv_ediv_of_nonneg (Int.le_of_lt h), Int.add_mul_ediv_right _ _ (by omega), Int.add_comm]

theorem digit_next (hb : 0 < b) (t : Nat → Int) (i : Nat) : sm b t (i + 1) / b ^ i = t i + sm b t i / b ^ i := by
  have h := pw hb i
  rw [sm, Int.add_mul_ediv_right _ _ (by omega), Int.add_comm]

theorem digit (hb : 0 < b) (t : Nat → Int) (i k : Nat) : (t i + sm b t i / b ^ i) % b = dig b (sm b t (i + 1 + k)) i := by
  induction k with
  | zero => rw [dig, Nat.add_zero, digit_next hb]
  | succ k ih =>
    rw [ih, dig, dig, ← Nat.add_assoc]
    rw [sm]
    have h := pw hb i
    have e : t (i + 1 + k) * b ^ (i + 1 + k) = (t (i + 1 + k) * b ^ k * b) * b ^ i := by
      rw [Int.pow_add, Int.pow_add, Int.pow_succ, Int.pow_zero, Int.one_mul]
      grind
    rw [e, Int.add_mul_ediv_right _ _ (by omega)]
    rw [Int.add_mul_emod_self_right]

theorem digit' (hb : 0 < b) (t : Nat → Int) {i n : Nat} (h : i < n) : (t i + sm b t i / b ^ i) % b = dig b (sm b t n) i := by
  have := digit hb t i (n - (i + 1))
  rwa [show i + 1 + (n - (i + 1)) = n by omega] at this

theorem sm_lt (hb : 0 < b) : ∀ {m : Nat}, (∀ q, q < m → 0 ≤ t q ∧ t q < b) → 0 ≤ sm b t m ∧ sm b t m < b ^ m
  | 0, _ => by simp [sm]
  | m + 1, h => by
    obtain ⟨h1, h2⟩ := sm_lt hb (m := m) (fun q hq => h q (by omega))
    obtain ⟨h3, h4⟩ := h m (by omega)
    have hp := pw hb m
    rw [sm, Int.pow_succ]
    have a1 : 0 ≤ t m * b ^ m := Int.mul_nonneg h3 (Int.le_of_lt hp)
    have a2 : t m * b ^ m ≤ (b - 1) * b ^ m := Int.mul_le_mul_of_nonneg_right (by omega) (Int.le_of_lt hp)
    have a3 : (b - 1) * b ^ m = b ^ m * b - b ^ m := by grind
    omega

theorem dig_sm (hb : 0 < b) {m : Nat} (h : ∀ q, q < m → 0 ≤ t q ∧ t q < b) {i : Nat} (hi : i < m) : dig b (sm b t m) i = t i := by
  rw [← digit' hb t hi]
  obtain ⟨h1, h2⟩ := sm_lt hb (m := i) (fun q hq => h q (by omega))
  rw [Int.ediv_eq_zero_of_lt h1 h2, Int.add_zero, Int.emod_eq_of_lt (h i hi).1 (h i hi).2]

theorem dig_range (hb : 0 < b) (n : Int) (q : Nat) : 0 ≤ dig b n q ∧ dig b n q < b := ⟨Int.emod_nonneg _ (by omega), Int.emod_lt_of_pos _ hb⟩

theorem sm_congr : ∀ {m : Nat}, (∀ q, q < m → t q = u q) → sm b t m = sm b u m
  | 0, _ => rfl
  | m + 1, h => by rw [sm, sm, sm_congr (fun q hq => h q (by omega)), h m (by omega)]

theorem sm_dig (hb : 0 < b) (n : Int) : ∀ m, sm b (dig b n) m = n % b ^ m
  | 0 => by simp [sm]
  | m + 1 => by
    rw [sm, sm_dig hb n m, dig, Int.pow_succ]
    have hp := pw hb m
    have h1 := Int.emod_add_mul_ediv n (b ^ m)
    have h2 := Int.emod_add_mul_ediv (n / b ^ m) b
    have h3 := Int.emod_add_mul_ediv n (b ^ m * b)
    have h4 : n / (b ^ m * b) = n / b ^ m / b := (Int.ediv_ediv_of_nonneg (Int.le_of_lt hp)).symm
    rw [h4] at h3
    grind

theorem sm_add (t u : Nat → Int) : ∀ m, sm b (fun q => t q + u q) m = sm b t m + sm b u m
  | 0 => by simp [sm]
  | m + 1 => by simp only [sm, sm_add t u m]; grind
theorem sm_sub (t u : Nat → Int) : ∀ m, sm b (fun q => t q - u q) m = sm b t m - sm b u m
  | 0 => by simp [sm]
  | m + 1 => by simp only [sm, sm_sub t u m]; grind
theorem sm_mul (c : Int) (t : Nat → Int) : ∀ m, sm b (fun q => c * t q) m = c * sm b t m
  | 0 => by simp [sm]
  | m + 1 => by simp only [sm, sm_mul c t m]; grind
theorem dig_congr {n n' : Int} {m : Nat} (hb : 0 < b) (h : n % b ^ m = n' % b ^ m) {q : Nat} (hq : q < m) : dig b n q = dig b n' q := by
  have key : ∀ n : Int, dig b (n % b ^ m) q = dig b n q := fun n => by
    rw [← sm_dig hb n m]
    exact dig_sm hb (fun i _ => dig_range hb n i) hq
  rw [← key n, ← key n', h]

theorem sm_le (hb : 0 < b) {M : Int} : ∀ {m : Nat}, (∀ q, q < m → 0 ≤ t q ∧ t q ≤ M * (b - 1)) → 0 ≤ sm b t m ∧ sm b t m ≤ M * (b ^ m - 1)
  | 0, _ => by simp [sm]
  | m + 1, h => by
    obtain ⟨h1, h2⟩ := sm_le hb (m := m) (fun q hq => h q (by omega))
    obtain ⟨h3, h4⟩ := h m (by omega)
    have hp := pw hb m
    rw [sm, Int.pow_succ]
    have a1 : 0 ≤ t m * b ^ m := Int.mul_nonneg h3 (Int.le_of_lt hp)
    have a2 : t m * b ^ m ≤ M * (b - 1) * b ^ m := Int.mul_le_mul_of_nonneg_right h4 (Int.le_of_lt hp)
    have a3 : M * (b - 1) * b ^ m = M * (b ^ m * b - 1) - M * (b ^ m - 1) := by grind
    omega
theorem carry_le (hb : 0 < b) {M : Int} (hM : 0 ≤ M) {m : Nat} (h : ∀ q, q < m → 0 ≤ t q ∧ t q ≤ M * (b - 1)) : 0 ≤ sm b t m / b ^ m ∧ sm b t m / b ^ m ≤ M := by
  obtain ⟨h1, h2⟩ := sm_le hb h
  have hp := pw hb m
  refine ⟨Int.ediv_nonneg h1 (Int.le_of_lt hp), ?_⟩
  refine Int.le_of_lt_add_one (Int.ediv_lt_of_lt_mul hp ?_)
  have : M * (b ^ m - 1) = M * b ^ m - M := by grind
  have : (M + 1) * b ^ m = M * b ^ m + b ^ m := by grind
  omega
end
end Go.Dg
