/- Numbers modulo p: the laws of the ring, of bytes, the examples. -/
import Derived.Test.YtbfmneknabhlcaaFldA
set_option linter.unusedVariables false
set_option linter.unusedSimpArgs false
set_option maxRecDepth 100000
open Go Go.Sx Go.Fld Go.Proofs Go.Dg
namespace Go.Fc
theorem v9 (f g h : Nat → Int) : must (evalVal (envL Try.prog TLaw Try.f9.ntmps [11, 25, 34, 47, 60, 75, 84, 92, 99] 0 [40] []) Try.f9 [X32 f, X32 g, X32 h]) =
    (((!true) = false) ∧
    ((0 : Nat) +
    (envL Try.prog TLaw Try.f9.ntmps
              [(11 : Nat), (25 : Nat), (34 : Nat), (47 : Nat), (60 : Nat), (75 : Nat), (84 : Nat), (92 : Nat),
                (99 : Nat)]
              (0 : Nat) [(40 : Nat)] []).P.types[(40 : Nat)].size ≤
  (envL Try.prog TLaw Try.f9.ntmps
            [(11 : Nat), (25 : Nat), (34 : Nat), (47 : Nat), (60 : Nat), (75 : Nat), (84 : Nat), (92 : Nat), (99 : Nat)]
            (0 : Nat) [(40 : Nat)] []).P.types[(40 : Nat)].size) ∧
    (isB fun q => f (q + (0 : Nat))) ∧
    ((0 : Nat) +
    (envL Try.prog TLaw Try.f9.ntmps
              [(11 : Nat), (25 : Nat), (34 : Nat), (47 : Nat), (60 : Nat), (75 : Nat), (84 : Nat), (92 : Nat),
                (99 : Nat)]
              (0 : Nat) [(40 : Nat)] []).P.types[(40 : Nat)].size ≤
  (envL Try.prog TLaw Try.f9.ntmps
            [(11 : Nat), (25 : Nat), (34 : Nat), (47 : Nat), (60 : Nat), (75 : Nat), (84 : Nat), (92 : Nat), (99 : Nat)]
            (0 : Nat) [(40 : Nat)] []).P.types[(40 : Nat)].size) ∧
    (isB fun q => g (q + (0 : Nat))) ∧
    ((0 : Nat) +
    (envL Try.prog TLaw Try.f9.ntmps
              [(11 : Nat), (25 : Nat), (34 : Nat), (47 : Nat), (60 : Nat), (75 : Nat), (84 : Nat), (92 : Nat),
                (99 : Nat)]
              (0 : Nat) [(40 : Nat)] []).P.types[(40 : Nat)].size ≤
  (envL Try.prog TLaw Try.f9.ntmps
            [(11 : Nat), (25 : Nat), (34 : Nat), (47 : Nat), (60 : Nat), (75 : Nat), (84 : Nat), (92 : Nat), (99 : Nat)]
            (0 : Nat) [(40 : Nat)] []).P.types[(40 : Nat)].size) ∧
    (isB fun q => h (q + (0 : Nat))) ∧
    ((E (anyF fun q => f (q + (0 : Nat)))).lt L51 ∧ (E (anyF fun q => g (q + (0 : Nat)))).lt L51) ∧
    ((E (anyF fun q => g (q + (0 : Nat)))).lt L51 ∧ (E (anyF fun q => f (q + (0 : Nat)))).lt L51) ∧
    ((E ((E (anyF fun q => f (q + (0 : Nat)))).val + (E (anyF fun q => g (q + (0 : Nat)))).val)).lt L51 ∧
    (E ((E (anyF fun q => g (q + (0 : Nat)))).val + (E (anyF fun q => f (q + (0 : Nat)))).val)).lt L51) ∧
    (decide
    ((E ((E (anyF fun q => f (q + (0 : Nat)))).val + (E (anyF fun q => g (q + (0 : Nat)))).val)).val =
      (E ((E (anyF fun q => g (q + (0 : Nat)))).val + (E (anyF fun q => f (q + (0 : Nat)))).val)).val) =
  true) ∧
    ((E (anyF fun q => f (q + (0 : Nat)))).lt L51 ∧ (E (anyF fun q => g (q + (0 : Nat)))).lt L51) ∧
    ((E (anyF fun q => g (q + (0 : Nat)))).lt L51 ∧ (E (anyF fun q => f (q + (0 : Nat)))).lt L51) ∧
    ((E ((E (anyF fun q => f (q + (0 : Nat)))).val * (E (anyF fun q => g (q + (0 : Nat)))).val)).lt L51 ∧
    (E ((E (anyF fun q => g (q + (0 : Nat)))).val * (E (anyF fun q => f (q + (0 : Nat)))).val)).lt L51) ∧
    (decide
    ((E ((E (anyF fun q => f (q + (0 : Nat)))).val * (E (anyF fun q => g (q + (0 : Nat)))).val)).val =
      (E ((E (anyF fun q => g (q + (0 : Nat)))).val * (E (anyF fun q => f (q + (0 : Nat)))).val)).val) =
  true) ∧
    ((E (anyF fun q => f (q + (0 : Nat)))).lt L51 ∧ (E (anyF fun q => g (q + (0 : Nat)))).lt L51) ∧
    ((E ((E (anyF fun q => f (q + (0 : Nat)))).val + (E (anyF fun q => g (q + (0 : Nat)))).val)).lt L51 ∧
    (E (anyF fun q => h (q + (0 : Nat)))).lt L51) ∧
    ((E (anyF fun q => g (q + (0 : Nat)))).lt L51 ∧ (E (anyF fun q => h (q + (0 : Nat)))).lt L51) ∧
    ((E (anyF fun q => f (q + (0 : Nat)))).lt L51 ∧
    (E ((E (anyF fun q => g (q + (0 : Nat)))).val + (E (anyF fun q => h (q + (0 : Nat)))).val)).lt L51) ∧
    ((E
        ((E ((E (anyF fun q => f (q + (0 : Nat)))).val + (E (anyF fun q => g (q + (0 : Nat)))).val)).val +
          (E (anyF fun q => h (q + (0 : Nat)))).val)).lt
    L51 ∧
    (E
        ((E (anyF fun q => f (q + (0 : Nat)))).val +
          (E ((E (anyF fun q => g (q + (0 : Nat)))).val + (E (anyF fun q => h (q + (0 : Nat)))).val)).val)).lt
    L51) ∧
    (decide
    ((E
          ((E ((E (anyF fun q => f (q + (0 : Nat)))).val + (E (anyF fun q => g (q + (0 : Nat)))).val)).val +
            (E (anyF fun q => h (q + (0 : Nat)))).val)).val =
      (E
          ((E (anyF fun q => f (q + (0 : Nat)))).val +
            (E ((E (anyF fun q => g (q + (0 : Nat)))).val + (E (anyF fun q => h (q + (0 : Nat)))).val)).val)).val) =
  true) ∧
    ((E (anyF fun q => f (q + (0 : Nat)))).lt L51 ∧ (E (anyF fun q => g (q + (0 : Nat)))).lt L51) ∧
    ((E ((E (anyF fun q => f (q + (0 : Nat)))).val * (E (anyF fun q => g (q + (0 : Nat)))).val)).lt L51 ∧
    (E (anyF fun q => h (q + (0 : Nat)))).lt L51) ∧
    ((E (anyF fun q => g (q + (0 : Nat)))).lt L51 ∧ (E (anyF fun q => h (q + (0 : Nat)))).lt L51) ∧
    ((E (anyF fun q => f (q + (0 : Nat)))).lt L51 ∧
    (E ((E (anyF fun q => g (q + (0 : Nat)))).val * (E (anyF fun q => h (q + (0 : Nat)))).val)).lt L51) ∧
    ((E
        ((E ((E (anyF fun q => f (q + (0 : Nat)))).val * (E (anyF fun q => g (q + (0 : Nat)))).val)).val *
          (E (anyF fun q => h (q + (0 : Nat)))).val)).lt
    L51 ∧
    (E
        ((E (anyF fun q => f (q + (0 : Nat)))).val *
          (E ((E (anyF fun q => g (q + (0 : Nat)))).val * (E (anyF fun q => h (q + (0 : Nat)))).val)).val)).lt
    L51) ∧
    (decide
    ((E
          ((E ((E (anyF fun q => f (q + (0 : Nat)))).val * (E (anyF fun q => g (q + (0 : Nat)))).val)).val *
            (E (anyF fun q => h (q + (0 : Nat)))).val)).val =
      (E
          ((E (anyF fun q => f (q + (0 : Nat)))).val *
            (E ((E (anyF fun q => g (q + (0 : Nat)))).val * (E (anyF fun q => h (q + (0 : Nat)))).val)).val)).val) =
  true) ∧
    ((E (anyF fun q => f (q + (0 : Nat)))).lt L51 ∧ (E (anyF fun q => g (q + (0 : Nat)))).lt L51) ∧
    ((E ((E (anyF fun q => f (q + (0 : Nat)))).val + (E (anyF fun q => g (q + (0 : Nat)))).val)).lt L51 ∧
    (E (anyF fun q => h (q + (0 : Nat)))).lt L51) ∧
    ((E (anyF fun q => f (q + (0 : Nat)))).lt L51 ∧ (E (anyF fun q => h (q + (0 : Nat)))).lt L51) ∧
    ((E (anyF fun q => g (q + (0 : Nat)))).lt L51 ∧ (E (anyF fun q => h (q + (0 : Nat)))).lt L51) ∧
    ((E ((E (anyF fun q => f (q + (0 : Nat)))).val * (E (anyF fun q => h (q + (0 : Nat)))).val)).lt L51 ∧
    (E ((E (anyF fun q => g (q + (0 : Nat)))).val * (E (anyF fun q => h (q + (0 : Nat)))).val)).lt L51) ∧
    ((E
        ((E ((E (anyF fun q => f (q + (0 : Nat)))).val + (E (anyF fun q => g (q + (0 : Nat)))).val)).val *
          (E (anyF fun q => h (q + (0 : Nat)))).val)).lt
    L51 ∧
    (E
        ((E ((E (anyF fun q => f (q + (0 : Nat)))).val * (E (anyF fun q => h (q + (0 : Nat)))).val)).val +
          (E ((E (anyF fun q => g (q + (0 : Nat)))).val * (E (anyF fun q => h (q + (0 : Nat)))).val)).val)).lt
    L51) ∧
    (decide
    ((E
          ((E ((E (anyF fun q => f (q + (0 : Nat)))).val + (E (anyF fun q => g (q + (0 : Nat)))).val)).val *
            (E (anyF fun q => h (q + (0 : Nat)))).val)).val =
      (E
          ((E ((E (anyF fun q => f (q + (0 : Nat)))).val * (E (anyF fun q => h (q + (0 : Nat)))).val)).val +
            (E ((E (anyF fun q => g (q + (0 : Nat)))).val * (E (anyF fun q => h (q + (0 : Nat)))).val)).val)).val) =
  true) ∧
    ((E (anyF fun q => f (q + (0 : Nat)))).lt L51 ∧ (E (anyF fun q => g (q + (0 : Nat)))).lt L51) ∧
    ((E ((E (anyF fun q => f (q + (0 : Nat)))).val - (E (anyF fun q => g (q + (0 : Nat)))).val)).lt L51 ∧
    (E (anyF fun q => g (q + (0 : Nat)))).lt L51) ∧
    ((E
        ((E ((E (anyF fun q => f (q + (0 : Nat)))).val - (E (anyF fun q => g (q + (0 : Nat)))).val)).val +
          (E (anyF fun q => g (q + (0 : Nat)))).val)).lt
    L51 ∧
    (E (anyF fun q => f (q + (0 : Nat)))).lt L51) ∧
    (decide
    ((E
          ((E ((E (anyF fun q => f (q + (0 : Nat)))).val - (E (anyF fun q => g (q + (0 : Nat)))).val)).val +
            (E (anyF fun q => g (q + (0 : Nat)))).val)).val =
      (E (anyF fun q => f (q + (0 : Nat)))).val) =
  true) ∧
    ((E (anyF fun q => f (q + (0 : Nat)))).lt L51) ∧
    ((E (anyF fun q => f (q + (0 : Nat)))).lt L51 ∧ (E (-(E (anyF fun q => f (q + (0 : Nat)))).val)).lt L51) ∧
    ((0 : Int) ≤ (0 : Int) ∧ (0 : Int) < (4294967296 : Int)) ∧
    ((E ((E (anyF fun q => f (q + (0 : Nat)))).val + (E (-(E (anyF fun q => f (q + (0 : Nat)))).val)).val)).lt L51 ∧
    (E (0 : Int)).lt L51) ∧
    (decide
    ((E ((E (anyF fun q => f (q + (0 : Nat)))).val + (E (-(E (anyF fun q => f (q + (0 : Nat)))).val)).val)).val =
      (E (0 : Int)).val) =
  true) ∧
    ((0 : Int) ≤ (1 : Int) ∧ (1 : Int) < (4294967296 : Int)) ∧
    ((E (anyF fun q => f (q + (0 : Nat)))).lt L51 ∧ (E (1 : Int)).lt L51) ∧
    ((E ((E (anyF fun q => f (q + (0 : Nat)))).val * (E (1 : Int)).val)).lt L51 ∧
    (E (anyF fun q => f (q + (0 : Nat)))).lt L51) ∧
    (decide
    ((E ((E (anyF fun q => f (q + (0 : Nat)))).val * (E (1 : Int)).val)).val =
      (E (anyF fun q => f (q + (0 : Nat)))).val) =
  true) ∧
    ((E (anyF fun q => f (q + (0 : Nat)))).lt L51 ∧ (E (anyF fun q => g (q + (0 : Nat)))).lt L51) ∧
    ((E (anyF fun q => g (q + (0 : Nat)))).lt L51 ∧ (E (anyF fun q => f (q + (0 : Nat)))).lt L51) ∧
    ((E ((E (anyF fun q => g (q + (0 : Nat)))).val - (E (anyF fun q => f (q + (0 : Nat)))).val)).lt L51) ∧
    ((E ((E (anyF fun q => f (q + (0 : Nat)))).val - (E (anyF fun q => g (q + (0 : Nat)))).val)).lt L51 ∧
    (E (-(E ((E (anyF fun q => g (q + (0 : Nat)))).val - (E (anyF fun q => f (q + (0 : Nat)))).val)).val)).lt L51) ∧
    (decide
    ((E ((E (anyF fun q => f (q + (0 : Nat)))).val - (E (anyF fun q => g (q + (0 : Nat)))).val)).val =
      (E (-(E ((E (anyF fun q => g (q + (0 : Nat)))).val - (E (anyF fun q => f (q + (0 : Nat)))).val)).val)).val) =
  true)) := by kernel_rfl
theorem emL (a b : Int) : a % p * b % p = a * b % p := by rw [Int.mul_emod, Int.emod_emod, ← Int.mul_emod]
theorem emR (a b : Int) : a * (b % p) % p = a * b % p := by rw [Int.mul_comm, emL, Int.mul_comm]
theorem eaL (a b : Int) : (a % p + b) % p = (a + b) % p := Int.emod_add_emod ..
theorem eaR (a b : Int) : (a + b % p) % p = (a + b) % p := Int.add_emod_emod ..
theorem esL (a b : Int) : (a % p - b) % p = (a - b) % p := by rw [Int.sub_emod, Int.emod_emod, ← Int.sub_emod]
theorem esR (a b : Int) : (a - b % p) % p = (a - b) % p := by rw [Int.sub_emod, Int.emod_emod, ← Int.sub_emod]
theorem enR (a : Int) : (-(a % p)) % p = (-a) % p := by have := esR 0 a; simpa using this
theorem eeR (a : Int) : a % p % p = a % p := Int.emod_emod_of_dvd a (Int.dvd_refl p)
theorem ltT (n : Int) : ((E n).lt L51) = True := eq_true (E_lt n)
theorem pS9 {f g h : Nat → Int} (hf : isB f) (hg : isB g) (hh : isB h) : PureOK Try.prog 9 [X32 f, X32 g, X32 h] (.b true) := by
  refine pure_of_must mixed tlaw_ok (fn := Try.f9) (by kernel_rfl) (by kernel_rfl) rfl [11, 25, 34, 47, 60, 75, 84, 92, 99] [40] [] told_none ⟨trivial, trivial, trivial, trivial⟩ ?_
  rw [v9]
  simp only [Nat.add_zero]
  generalize anyF f = a
  generalize anyF g = b
  generalize anyF h = c
  simp only [ltT, true_and, and_true, E_val, decide_eq_true_eq, emL, emR, eaL, eaR, esL, esR, enR, eeR]
  and_intros
  all_goals first | exact hf | exact hg | exact hh | decide | (congr 1; grind)
end Go.Fc
