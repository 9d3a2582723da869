/- Numbers modulo p: the law of sums. -/
import Derived.Test.YtbfmneknabhlcaaRfI
import Derived.Test.YtbfmneknabhlcaaFldL
set_option linter.unusedVariables false
set_option linter.unusedSimpArgs false
set_option maxRecDepth 100000
open Go Go.Sx Go.Fld Go.Fc Go.Proofs Go.Dg
namespace Go.Rf
def eqD (f g : Nat → Int) : Nat → Nat → Bool
  | 0, _ => true
  | k + 1, i => f i == g i && eqD f g k (i + 1)
theorem eqD_iff (f g : Nat → Int) : ∀ k i, eqD f g k i = true ↔ ∀ q, i ≤ q → q < i + k → f q = g q
  | 0, i => by simp [eqD]; intro q h1 h2; omega
  | k + 1, i => by
    simp only [eqD, Bool.and_eq_true, beq_iff_eq, eqD_iff f g k (i + 1)]
    constructor
    · rintro ⟨h1, h2⟩ q h3 h4
      by_cases h : q = i
      · subst h; exact h1
      · exact h2 q (by omega) (by omega)
    · intro h; exact ⟨h i (by omega) (by omega), fun q h3 h4 => h q (by omega) (by omega)⟩
theorem eqD_dig {a b : Int} (ha : 0 ≤ a ∧ a < p) (hb : 0 ≤ b ∧ b < p) : eqD (dig 65536 a) (dig 65536 b) 16 0 = decide (a = b) := by
  rw [Bool.eq_iff_iff, eqD_iff, decide_eq_true_eq]
  constructor
  · intro h
    rw [← V_lt ha.1 ha.2, ← V_lt hb.1 hb.2]
    exact sm_congr fun q hq => h q (by omega) (by omega)
  · rintro rfl q _ _; rfl
theorem v8 (f g : Nat → Int) : must (evalVal (envL Try.prog TRing Try.f8.ntmps [26, 37, 48, 57, 66, 71] 0 [30, 40] []) Try.f8 [X32 f, X32 g]) =
    (((0 : Nat) + 32 ≤ 32) ∧
    (isB fun q => f (q + (0 : Nat))) ∧
    ((0 : Nat) + 32 ≤ 32) ∧
    (isB fun q => g (q + (0 : Nat))) ∧
    ((0 : Nat) + 32 ≤ 32) ∧
    (isB fun q => f (q + (0 : Nat))) ∧
    ((0 : Nat) + 32 ≤ 32) ∧
    (isB fun q => g (q + (0 : Nat))) ∧
    ((0 : Nat) = (0 : Nat)) ∧
    ((0 : Nat) = (0 : Nat)) ∧
    ((E (anyF fun q => f (q + (0 : Nat)))).lt L51 ∧ (E (anyF fun q => g (q + (0 : Nat)))).lt L51) ∧
    ((E ((E (anyF fun q => f (q + (0 : Nat)))).val + (E (anyF fun q => g (q + (0 : Nat)))).val)).lt L51) ∧
    ((0 : Nat) + 16 ≤ 16) ∧
    ((0 : Nat) + 16 ≤ 16) ∧
    ((isD fun q => dig (65536 : Int) ((anyF fun q => f (q + (0 : Nat))) % p) (q + (0 : Nat))) ∧
    isD fun q => dig (65536 : Int) ((anyF fun q => g (q + (0 : Nat))) % p) (q + (0 : Nat))) ∧
    (isD
  (dig (65536 : Int)
    (((V fun q => dig (65536 : Int) ((anyF fun q => f (q + (0 : Nat))) % p) (q + (0 : Nat))) +
        V fun q => dig (65536 : Int) ((anyF fun q => g (q + (0 : Nat))) % p) (q + (0 : Nat))) %
      p))) ∧
    ((txt (E ((E (anyF fun q => f (q + (0 : Nat)))).val + (E (anyF fun q => g (q + (0 : Nat)))).val)).val ==
    txt
      (V
        (dig (65536 : Int)
          (((V fun q => dig (65536 : Int) ((anyF fun q => f (q + (0 : Nat))) % p) (q + (0 : Nat))) +
              V fun q => dig (65536 : Int) ((anyF fun q => g (q + (0 : Nat))) % p) (q + (0 : Nat))) %
            p)))) =
  true) ∧
    ((E (anyF fun q => f (q + (0 : Nat)))).lt L51 ∧ (E (anyF fun q => g (q + (0 : Nat)))).lt L51) ∧
    ((E ((E (anyF fun q => f (q + (0 : Nat)))).val - (E (anyF fun q => g (q + (0 : Nat)))).val)).lt L51) ∧
    ((0 : Nat) + 16 ≤ 16) ∧
    ((0 : Nat) + 16 ≤ 16) ∧
    ((isD fun q => dig (65536 : Int) ((anyF fun q => f (q + (0 : Nat))) % p) (q + (0 : Nat))) ∧
    (isD fun q => dig (65536 : Int) ((anyF fun q => g (q + (0 : Nat))) % p) (q + (0 : Nat))) ∧
    (V fun q => dig (65536 : Int) ((anyF fun q => g (q + (0 : Nat))) % p) (q + (0 : Nat))) < p) ∧
    (isD
  (dig (65536 : Int)
    (((V fun q => dig (65536 : Int) ((anyF fun q => f (q + (0 : Nat))) % p) (q + (0 : Nat))) -
        V fun q => dig (65536 : Int) ((anyF fun q => g (q + (0 : Nat))) % p) (q + (0 : Nat))) %
      p))) ∧
    ((txt (E ((E (anyF fun q => f (q + (0 : Nat)))).val - (E (anyF fun q => g (q + (0 : Nat)))).val)).val ==
    txt
      (V
        (dig (65536 : Int)
          (((V fun q => dig (65536 : Int) ((anyF fun q => f (q + (0 : Nat))) % p) (q + (0 : Nat))) -
              V fun q => dig (65536 : Int) ((anyF fun q => g (q + (0 : Nat))) % p) (q + (0 : Nat))) %
            p)))) =
  true) ∧
    ((E (anyF fun q => f (q + (0 : Nat)))).lt L51 ∧ (E (anyF fun q => g (q + (0 : Nat)))).lt L51) ∧
    ((E ((E (anyF fun q => f (q + (0 : Nat)))).val * (E (anyF fun q => g (q + (0 : Nat)))).val)).lt L51) ∧
    ((0 : Nat) + 16 ≤ 16) ∧
    ((0 : Nat) + 16 ≤ 16) ∧
    ((isD fun q => dig (65536 : Int) ((anyF fun q => f (q + (0 : Nat))) % p) (q + (0 : Nat))) ∧
    isD fun q => dig (65536 : Int) ((anyF fun q => g (q + (0 : Nat))) % p) (q + (0 : Nat))) ∧
    (isD
  (dig (65536 : Int)
    (((V fun q => dig (65536 : Int) ((anyF fun q => f (q + (0 : Nat))) % p) (q + (0 : Nat))) *
        V fun q => dig (65536 : Int) ((anyF fun q => g (q + (0 : Nat))) % p) (q + (0 : Nat))) %
      p))) ∧
    ((txt (E ((E (anyF fun q => f (q + (0 : Nat)))).val * (E (anyF fun q => g (q + (0 : Nat)))).val)).val ==
    txt
      (V
        (dig (65536 : Int)
          (((V fun q => dig (65536 : Int) ((anyF fun q => f (q + (0 : Nat))) % p) (q + (0 : Nat))) *
              V fun q => dig (65536 : Int) ((anyF fun q => g (q + (0 : Nat))) % p) (q + (0 : Nat))) %
            p)))) =
  true) ∧
    ((E (anyF fun q => f (q + (0 : Nat)))).lt L51) ∧
    ((E (-(E (anyF fun q => f (q + (0 : Nat)))).val)).lt L51) ∧
    ((0 : Nat) + 16 ≤ 16) ∧
    ((isD fun q => dig (65536 : Int) ((anyF fun q => f (q + (0 : Nat))) % p) (q + (0 : Nat))) ∧
    (V fun q => dig (65536 : Int) ((anyF fun q => f (q + (0 : Nat))) % p) (q + (0 : Nat))) < p) ∧
    (isD
  (dig (65536 : Int) ((-V fun q => dig (65536 : Int) ((anyF fun q => f (q + (0 : Nat))) % p) (q + (0 : Nat))) % p))) ∧
    ((txt (E (-(E (anyF fun q => f (q + (0 : Nat)))).val)).val ==
    txt
      (V
        (dig (65536 : Int)
          ((-V fun q => dig (65536 : Int) ((anyF fun q => f (q + (0 : Nat))) % p) (q + (0 : Nat))) % p)))) =
  true) ∧
    ((E (anyF fun q => f (q + (0 : Nat)))).lt L51 ∧ (E (anyF fun q => g (q + (0 : Nat)))).lt L51) ∧
    ((0 : Nat) + 16 ≤ 16) ∧
    ((0 : Nat) + 16 ≤ 16) ∧
    ((decide ((E (anyF fun q => f (q + (0 : Nat)))).val = (E (anyF fun q => g (q + (0 : Nat)))).val) ==
    eqD (fun q => dig 65536 ((anyF fun q => f (q + (0 : Nat))) % p) (q + (0 : Nat))) (fun q => dig 65536 ((anyF fun q => g (q + (0 : Nat))) % p) (q + (0 : Nat))) 16 0) =
  true) ∧
    ((E (anyF fun q => f (q + (0 : Nat)))).lt L51 ∧ (E (anyF fun q => f (q + (0 : Nat)))).lt L51) ∧
    (decide ((E (anyF fun q => f (q + (0 : Nat)))).val = (E (anyF fun q => f (q + (0 : Nat)))).val) = true) ∧
    (true = true)) := by kernel_rfl
theorem pS8 {f g : Nat → Int} (hf : isB f) (hg : isB g) : PureOK Try.prog 8 [X32 f, X32 g] (.b true) := by
  refine pure_of_must mixed tring_ok (fn := Try.f8) (by kernel_rfl) (by kernel_rfl) rfl [26, 37, 48, 57, 66, 71] [30, 40] [] told_none ⟨trivial, trivial, trivial⟩ ?_
  rw [v8]
  simp only [Nat.add_zero]
  generalize anyF f = a
  generalize anyF g = b
  have d : ∀ n, isD (dig 65536 n) = True := fun n => eq_true (isD_dig n)
  have v : ∀ n, V (dig 65536 (n % p)) = n % p := fun n => V_lt (mod_p n).1 (mod_p n).2
  have l : ∀ n : Int, (n % p < p) = True := fun n => eq_true (mod_p n).2
  have q := eqD_dig (mod_p a) (mod_p b)
  have hf' : isB f = True := eq_true hf
  have hg' : isB g = True := eq_true hg
  simp only [ltT, E_val, d, v, l, q, hf', hg', true_and, and_true, emL, emR, eaL, eaR, esL, esR, enR, eeR, beq_self_eq_true, decide_true, Nat.le_refl]
  try decide
end Go.Rf
