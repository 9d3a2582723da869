/- Numbers modulo p: the law of division. -/
import Derived.Test.YtbfmneknabhlcaaFldD
set_option linter.unusedVariables false
set_option linter.unusedSimpArgs false
set_option maxRecDepth 100000
open Go Go.Sx Go.Fld Go.Proofs Go.Dg
namespace Go.Fc
theorem v5 (f g : Nat → Int) : must (evalVal (envL Try.prog TLaw Try.f5.ntmps [10, 19, 24, 37, 44, 54] 0 [40] []) Try.f5 [X32 f, X32 g]) =
    (((!true) = false) ∧
    ((0 : Nat) +
    (envL Try.prog TLaw Try.f5.ntmps [(10 : Nat), (19 : Nat), (24 : Nat), (37 : Nat), (44 : Nat), (54 : Nat)] (0 : Nat)
              [(40 : Nat)] []).P.types[(40 : Nat)].size ≤
  (envL Try.prog TLaw Try.f5.ntmps [(10 : Nat), (19 : Nat), (24 : Nat), (37 : Nat), (44 : Nat), (54 : Nat)] (0 : Nat)
            [(40 : Nat)] []).P.types[(40 : Nat)].size) ∧
    (isB fun q => f (q + (0 : Nat))) ∧
    ((0 : Nat) +
    (envL Try.prog TLaw Try.f5.ntmps [(10 : Nat), (19 : Nat), (24 : Nat), (37 : Nat), (44 : Nat), (54 : Nat)] (0 : Nat)
              [(40 : Nat)] []).P.types[(40 : Nat)].size ≤
  (envL Try.prog TLaw Try.f5.ntmps [(10 : Nat), (19 : Nat), (24 : Nat), (37 : Nat), (44 : Nat), (54 : Nat)] (0 : Nat)
            [(40 : Nat)] []).P.types[(40 : Nat)].size) ∧
    (isB fun q => g (q + (0 : Nat))) ∧
    ((0 : Int) ≤ (0 : Int) ∧ (0 : Int) < (4294967296 : Int)) ∧
    ((0 : Int) ≤ (1 : Int) ∧ (1 : Int) < (4294967296 : Int)) ∧
    ((E (anyF fun q => f (q + (0 : Nat)))).lt L51 ∧ (E (0 : Int)).lt L51) ∧
    (decide ((E (anyF fun q => f (q + (0 : Nat)))).val = (E (0 : Int)).val) = true →
  E (anyF fun q => f (q + (0 : Nat))) = E (E (anyF fun q => f (q + (0 : Nat)))).val ∧
    ((E (pw (E (anyF fun q => f (q + (0 : Nat)))).val (pN - (2 : Nat)))).lt L51 ∧ (E (0 : Int)).lt L51) ∧
    decide ((E (pw (E (anyF fun q => f (q + (0 : Nat)))).val (pN - (2 : Nat)))).val = (E (0 : Int)).val) = true ∧
    ((E (anyF fun q => f (q + (0 : Nat)))).lt L51 ∧ (E (anyF fun q => g (q + (0 : Nat)))).lt L51) ∧
    ((E ((E (anyF fun q => f (q + (0 : Nat)))).val * (E (anyF fun q => g (q + (0 : Nat)))).val)).lt L51 ∧
    (E (0 : Int)).lt L51) ∧
    decide
                ((E ((E (anyF fun q => f (q + (0 : Nat)))).val * (E (anyF fun q => g (q + (0 : Nat)))).val)).val =
                  (E (0 : Int)).val) =
              true) ∧
    (decide ((E (anyF fun q => f (q + (0 : Nat)))).val = (E (0 : Int)).val) = false →
  E (anyF fun q => f (q + (0 : Nat))) = E (E (anyF fun q => f (q + (0 : Nat)))).val ∧
    ((E (anyF fun q => f (q + (0 : Nat)))).lt L51 ∧
    (E (pw (E (anyF fun q => f (q + (0 : Nat)))).val (pN - (2 : Nat)))).lt L51) ∧
    ((E
                ((E (anyF fun q => f (q + (0 : Nat)))).val *
                  (E (pw (E (anyF fun q => f (q + (0 : Nat)))).val (pN - (2 : Nat)))).val)).lt
            L51 ∧
    (E (1 : Int)).lt L51) ∧
    decide
              ((E
                    ((E (anyF fun q => f (q + (0 : Nat)))).val *
                      (E (pw (E (anyF fun q => f (q + (0 : Nat)))).val (pN - (2 : Nat)))).val)).val =
                (E (1 : Int)).val) =
            true ∧
    E (anyF fun q => f (q + (0 : Nat))) = E (E (anyF fun q => f (q + (0 : Nat)))).val ∧
    E (pw (E (anyF fun q => f (q + (0 : Nat)))).val (pN - (2 : Nat))) =
                E (E (pw (E (anyF fun q => f (q + (0 : Nat)))).val (pN - (2 : Nat)))).val ∧
    ((E (pw (E (pw (E (anyF fun q => f (q + (0 : Nat)))).val (pN - (2 : Nat)))).val (pN - (2 : Nat)))).lt
                    L51 ∧
    (E (anyF fun q => f (q + (0 : Nat)))).lt L51) ∧
    decide
                      ((E
                            (pw (E (pw (E (anyF fun q => f (q + (0 : Nat)))).val (pN - (2 : Nat)))).val
                              (pN - (2 : Nat)))).val =
                        (E (anyF fun q => f (q + (0 : Nat)))).val) =
                    true ∧
    ((E (anyF fun q => f (q + (0 : Nat)))).lt L51 ∧ (E (anyF fun q => g (q + (0 : Nat)))).lt L51) ∧
    E (anyF fun q => f (q + (0 : Nat))) = E (E (anyF fun q => f (q + (0 : Nat)))).val ∧
    ((E ((E (anyF fun q => f (q + (0 : Nat)))).val * (E (anyF fun q => g (q + (0 : Nat)))).val)).lt
                            L51 ∧
    (E (pw (E (anyF fun q => f (q + (0 : Nat)))).val (pN - (2 : Nat)))).lt L51) ∧
    ((E
                                  ((E
                                        ((E (anyF fun q => f (q + (0 : Nat)))).val *
                                          (E (anyF fun q => g (q + (0 : Nat)))).val)).val *
                                    (E (pw (E (anyF fun q => f (q + (0 : Nat)))).val (pN - (2 : Nat)))).val)).lt
                              L51 ∧
    (E (anyF fun q => g (q + (0 : Nat)))).lt L51) ∧
    decide
                                ((E
                                      ((E
                                            ((E (anyF fun q => f (q + (0 : Nat)))).val *
                                              (E (anyF fun q => g (q + (0 : Nat)))).val)).val *
                                        (E (pw (E (anyF fun q => f (q + (0 : Nat)))).val (pN - (2 : Nat)))).val)).val =
                                  (E (anyF fun q => g (q + (0 : Nat)))).val) =
                              true ∧
    ((E (anyF fun q => f (q + (0 : Nat)))).lt L51 ∧
    (E (anyF fun q => g (q + (0 : Nat)))).lt L51) ∧
    ((E
                                        ((E (anyF fun q => f (q + (0 : Nat)))).val *
                                          (E (anyF fun q => g (q + (0 : Nat)))).val)).lt
                                    L51 ∧
    (E (0 : Int)).lt L51) ∧
    ((E (anyF fun q => g (q + (0 : Nat)))).lt L51 ∧ (E (0 : Int)).lt L51) ∧
    (decide
                                        ((E
                                              ((E (anyF fun q => f (q + (0 : Nat)))).val *
                                                (E (anyF fun q => g (q + (0 : Nat)))).val)).val =
                                          (E (0 : Int)).val) ==
                                      decide ((E (anyF fun q => g (q + (0 : Nat)))).val = (E (0 : Int)).val)) =
                                    true)) := by kernel_rfl
theorem zero_mod : (0 : Int) % p = 0 := rfl
theorem one_mod : (1 : Int) % p = 1 := rfl
theorem pS5 {f g : Nat → Int} (hf : isB f) (hg : isB g) : PureOK Try.prog 5 [X32 f, X32 g] (.b true) := by
  refine pure_of_must mixed tlaw_ok (fn := Try.f5) (by kernel_rfl) (by kernel_rfl) rfl [10, 19, 24, 37, 44, 54] [40] [] told_none ⟨trivial, trivial, trivial⟩ ?_
  rw [v5]
  simp only [Nat.add_zero, ← canE]
  generalize anyF f = a
  generalize anyF g = b
  simp only [ltT, true_and, and_true, E_val, decide_eq_true_eq, decide_eq_false_iff_not, emL, emR, pw_arg, eeR, zero_mod, one_mod, beq_iff_eq]
  refine ⟨rfl, by decide, hf, by decide, hg, by decide, by decide, fun h => ?_, fun h => ?_⟩
  · refine ⟨inv_zero h, ?_⟩
    rw [← emL, h]; simp
  · refine ⟨inv_mul h, inv_inv h, ?_, ?_⟩
    · have : a * b * pw a (pN - 2) = b * (a * pw a (pN - 2)) := by grind
      rw [this, ← emR, inv_mul h]; simp
    · rw [decide_eq_decide]
      constructor
      · intro h2; exact (mul_zero_or h2).resolve_left h
      · intro h2; rw [← emR, h2]; simp
end Go.Fc
