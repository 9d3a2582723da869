/- Numbers modulo p: the law of squares. -/
import Derived.Test.YtbfmneknabhlcaaFldS
import Derived.Test.YtbfmneknabhlcaaSxY2
set_option linter.unusedVariables false
set_option linter.unusedSimpArgs false
set_option maxRecDepth 100000
open Go Go.Sx Go.Fld Go.Proofs Go.Dg
namespace Go.Fc
theorem v7 (f g : Nat → Int) : must2 (evalVal (envL Try.prog TLaw Try.f7.ntmps [19, 34, 43, 38, 50, 64, 75, 72, 81, 85, 89, 94, 98, 118] 0 [40] []) Try.f7 [X32 f, X32 g]) =
    (((!true) = true → false = true) ∧
    ((!true) = false →
  (0 : Nat) +
        (envL Try.prog TLaw Try.f7.ntmps
                  [(19 : Nat), (34 : Nat), (43 : Nat), (38 : Nat), (50 : Nat), (64 : Nat), (75 : Nat), (72 : Nat),
                    (81 : Nat), (85 : Nat), (89 : Nat), (94 : Nat), (98 : Nat), (118 : Nat)]
                  (0 : Nat) [(40 : Nat)] []).P.types[(40 : Nat)].size ≤
      (envL Try.prog TLaw Try.f7.ntmps
                [(19 : Nat), (34 : Nat), (43 : Nat), (38 : Nat), (50 : Nat), (64 : Nat), (75 : Nat), (72 : Nat),
                  (81 : Nat), (85 : Nat), (89 : Nat), (94 : Nat), (98 : Nat), (118 : Nat)]
                (0 : Nat) [(40 : Nat)] []).P.types[(40 : Nat)].size ∧
    (isB fun q => f (q + (0 : Nat))) ∧
    (0 : Nat) +
            (envL Try.prog TLaw Try.f7.ntmps
                      [(19 : Nat), (34 : Nat), (43 : Nat), (38 : Nat), (50 : Nat), (64 : Nat), (75 : Nat), (72 : Nat),
                        (81 : Nat), (85 : Nat), (89 : Nat), (94 : Nat), (98 : Nat), (118 : Nat)]
                      (0 : Nat) [(40 : Nat)] []).P.types[(40 : Nat)].size ≤
          (envL Try.prog TLaw Try.f7.ntmps
                    [(19 : Nat), (34 : Nat), (43 : Nat), (38 : Nat), (50 : Nat), (64 : Nat), (75 : Nat), (72 : Nat),
                      (81 : Nat), (85 : Nat), (89 : Nat), (94 : Nat), (98 : Nat), (118 : Nat)]
                    (0 : Nat) [(40 : Nat)] []).P.types[(40 : Nat)].size ∧
    (isB fun q => g (q + (0 : Nat))) ∧
    ((0 : Int) ≤ (0 : Int) ∧ (0 : Int) < (4294967296 : Int)) ∧
    ((E (anyF fun q => f (q + (0 : Nat)))).lt L51 ∧ (E (anyF fun q => f (q + (0 : Nat)))).lt L51) ∧
    E ((E (anyF fun q => f (q + (0 : Nat)))).val * (E (anyF fun q => f (q + (0 : Nat)))).val) =
                  E (E ((E (anyF fun q => f (q + (0 : Nat)))).val * (E (anyF fun q => f (q + (0 : Nat)))).val)).val ∧
    ((!hasR
                          (E
                              ((E (anyF fun q => f (q + (0 : Nat)))).val *
                                (E (anyF fun q => f (q + (0 : Nat)))).val)).val) =
                      true →
                    false = true) ∧
    ((!hasR
                          (E
                              ((E (anyF fun q => f (q + (0 : Nat)))).val *
                                (E (anyF fun q => f (q + (0 : Nat)))).val)).val) =
                      false →
                    (E
                            (rootV
                              (E
                                  ((E (anyF fun q => f (q + (0 : Nat)))).val *
                                    (E (anyF fun q => f (q + (0 : Nat)))).val)).val)).lt
                        L51 ∧
    (decide
                              ((E
                                      (rootV
                                        (E
                                            ((E (anyF fun q => f (q + (0 : Nat)))).val *
                                              (E (anyF fun q => f (q + (0 : Nat)))).val)).val)).val %
                                  (2 : Int) =
                                (1 : Int)) =
                            true →
                          false = true) ∧
    (decide
                              ((E
                                      (rootV
                                        (E
                                            ((E (anyF fun q => f (q + (0 : Nat)))).val *
                                              (E (anyF fun q => f (q + (0 : Nat)))).val)).val)).val %
                                  (2 : Int) =
                                (1 : Int)) =
                            false →
                          ((E
                                    (rootV
                                      (E
                                          ((E (anyF fun q => f (q + (0 : Nat)))).val *
                                            (E (anyF fun q => f (q + (0 : Nat)))).val)).val)).lt
                                L51 ∧
    (E (anyF fun q => f (q + (0 : Nat)))).lt L51) ∧
    ((!decide
                                      ((E
                                            (rootV
                                              (E
                                                  ((E (anyF fun q => f (q + (0 : Nat)))).val *
                                                    (E (anyF fun q => f (q + (0 : Nat)))).val)).val)).val =
                                        (E (anyF fun q => f (q + (0 : Nat)))).val)) =
                                  true →
                                (E (anyF fun q => f (q + (0 : Nat)))).lt L51 ∧
    ((E
                                            (rootV
                                              (E
                                                  ((E (anyF fun q => f (q + (0 : Nat)))).val *
                                                    (E (anyF fun q => f (q + (0 : Nat)))).val)).val)).lt
                                        L51 ∧
    (E (-(E (anyF fun q => f (q + (0 : Nat)))).val)).lt L51) ∧
    ((!decide
                                              ((E
                                                    (rootV
                                                      (E
                                                          ((E (anyF fun q => f (q + (0 : Nat)))).val *
                                                            (E (anyF fun q => f (q + (0 : Nat)))).val)).val)).val =
                                                (E (-(E (anyF fun q => f (q + (0 : Nat)))).val)).val)) =
                                          true →
                                        false = true) ∧
    ((!decide
                                              ((E
                                                    (rootV
                                                      (E
                                                          ((E (anyF fun q => f (q + (0 : Nat)))).val *
                                                            (E (anyF fun q => f (q + (0 : Nat)))).val)).val)).val =
                                                (E (-(E (anyF fun q => f (q + (0 : Nat)))).val)).val)) =
                                          false →
                                        E (anyF fun q => f (q + (0 : Nat))) =
                                            E (E (anyF fun q => f (q + (0 : Nat)))).val ∧
    ((E (anyF fun q => f (q + (0 : Nat)))).lt L51 ∧
    (E (anyF fun q => f (q + (0 : Nat)))).lt L51) ∧
    E
                                                  ((E (anyF fun q => f (q + (0 : Nat)))).val +
                                                    (E (anyF fun q => f (q + (0 : Nat)))).val) =
                                                E
                                                  (E
                                                      ((E (anyF fun q => f (q + (0 : Nat)))).val +
                                                        (E (anyF fun q => f (q + (0 : Nat)))).val)).val ∧
    (hasR (E (anyF fun q => f (q + (0 : Nat)))).val = true →
                                                  ((E (rootV (E (anyF fun q => f (q + (0 : Nat)))).val)).lt L51 ∧
    (E (rootV (E (anyF fun q => f (q + (0 : Nat)))).val)).lt L51) ∧
    ((E
                                                              ((E
                                                                    (rootV
                                                                      (E (anyF fun q => f (q + (0 : Nat)))).val)).val *
                                                                (E
                                                                    (rootV
                                                                      (E
                                                                          (anyF fun q =>
                                                                            f (q + (0 : Nat)))).val)).val)).lt
                                                          L51 ∧
    (E (anyF fun q => f (q + (0 : Nat)))).lt L51) ∧
    ((!decide
                                                                ((E
                                                                      ((E
                                                                            (rootV
                                                                              (E
                                                                                  (anyF fun q =>
                                                                                    f (q + (0 : Nat)))).val)).val *
                                                                        (E
                                                                            (rootV
                                                                              (E
                                                                                  (anyF fun q =>
                                                                                    f
                                                                                      (q +
                                                                                        (0 : Nat)))).val)).val)).val =
                                                                  (E (anyF fun q => f (q + (0 : Nat)))).val)) =
                                                            true →
                                                          false = true) ∧
    ((!decide
                                                                ((E
                                                                      ((E
                                                                            (rootV
                                                                              (E
                                                                                  (anyF fun q =>
                                                                                    f (q + (0 : Nat)))).val)).val *
                                                                        (E
                                                                            (rootV
                                                                              (E
                                                                                  (anyF fun q =>
                                                                                    f
                                                                                      (q +
                                                                                        (0 : Nat)))).val)).val)).val =
                                                                  (E (anyF fun q => f (q + (0 : Nat)))).val)) =
                                                            false →
                                                          ((!hasR (E (anyF fun q => f (q + (0 : Nat)))).val) = true →
                                                              ((E (rootV (E (anyF fun q => f (q + (0 : Nat)))).val)).lt
                                                                    L51 ∧
    (E (0 : Int)).lt L51) ∧
    ((!decide
                                                                          ((E
                                                                                (rootV
                                                                                  (E
                                                                                      (anyF fun q =>
                                                                                        f (q + (0 : Nat)))).val)).val =
                                                                            (E (0 : Int)).val)) =
                                                                      true →
                                                                    false = true) ∧
    ((!decide
                                                                          ((E
                                                                                (rootV
                                                                                  (E
                                                                                      (anyF fun q =>
                                                                                        f (q + (0 : Nat)))).val)).val =
                                                                            (E (0 : Int)).val)) =
                                                                      false →
                                                                    ((E (anyF fun q => f (q + (0 : Nat)))).lt L51 ∧
    (E (0 : Int)).lt L51) ∧
    (decide
                                                                              ((E
                                                                                    (anyF fun q =>
                                                                                      f (q + (0 : Nat)))).val =
                                                                                (E (0 : Int)).val) =
                                                                            true →
                                                                          ((E (anyF fun q => f (q + (0 : Nat)))).lt
                                                                                L51 ∧
    (E (0 : Int)).lt L51) ∧
    (hasR
                                                                                    (E
                                                                                        (anyF fun q =>
                                                                                          f (q + (0 : Nat)))).val =
                                                                                  true →
                                                                                ((decide
                                                                                          ((E
                                                                                                (anyF fun q =>
                                                                                                  f
                                                                                                    (q +
                                                                                                      (0 : Nat)))).val =
                                                                                            (E (0 : Int)).val) ==
                                                                                        hasR
                                                                                          (E
                                                                                              ((E
                                                                                                    (anyF fun q =>
                                                                                                      f
                                                                                                        (q +
                                                                                                          (0 :
                                                                                                            Nat)))).val +
                                                                                                (E
                                                                                                    (anyF fun q =>
                                                                                                      f
                                                                                                        (q +
                                                                                                          (0 :
                                                                                                            Nat)))).val)).val) =
                                                                                      true →
                                                                                    true = true) ∧
    ((decide
                                                                                          ((E
                                                                                                (anyF fun q =>
                                                                                                  f
                                                                                                    (q +
                                                                                                      (0 : Nat)))).val =
                                                                                            (E (0 : Int)).val) ==
                                                                                        hasR
                                                                                          (E
                                                                                              ((E
                                                                                                    (anyF fun q =>
                                                                                                      f
                                                                                                        (q +
                                                                                                          (0 :
                                                                                                            Nat)))).val +
                                                                                                (E
                                                                                                    (anyF fun q =>
                                                                                                      f
                                                                                                        (q +
                                                                                                          (0 :
                                                                                                            Nat)))).val)).val) =
                                                                                      false →
                                                                                    ((E
                                                                                              (anyF fun q =>
                                                                                                g (q + (0 : Nat)))).lt
                                                                                          L51 ∧
    (E (0 : Int)).lt L51) ∧
    decide
                                                                                          ((E
                                                                                                (anyF fun q =>
                                                                                                  g
                                                                                                    (q +
                                                                                                      (0 : Nat)))).val =
                                                                                            (E (0 : Int)).val) =
                                                                                        true)) ∧
    (hasR
                                                                                    (E
                                                                                        (anyF fun q =>
                                                                                          f (q + (0 : Nat)))).val =
                                                                                  false →
                                                                                ((decide
                                                                                          ((E
                                                                                                (anyF fun q =>
                                                                                                  f
                                                                                                    (q +
                                                                                                      (0 : Nat)))).val =
                                                                                            (E (0 : Int)).val) ==
                                                                                        false) =
                                                                                      true →
                                                                                    true = true) ∧
    ((decide
                                                                                          ((E
                                                                                                (anyF fun q =>
                                                                                                  f
                                                                                                    (q +
                                                                                                      (0 : Nat)))).val =
                                                                                            (E (0 : Int)).val) ==
                                                                                        false) =
                                                                                      false →
                                                                                    ((E
                                                                                              (anyF fun q =>
                                                                                                g (q + (0 : Nat)))).lt
                                                                                          L51 ∧
    (E (0 : Int)).lt L51) ∧
    decide
                                                                                          ((E
                                                                                                (anyF fun q =>
                                                                                                  g
                                                                                                    (q +
                                                                                                      (0 : Nat)))).val =
                                                                                            (E (0 : Int)).val) =
                                                                                        true))) ∧
    (decide
                                                                              ((E
                                                                                    (anyF fun q =>
                                                                                      f (q + (0 : Nat)))).val =
                                                                                (E (0 : Int)).val) =
                                                                            false →
                                                                          ((E (anyF fun q => g (q + (0 : Nat)))).lt
                                                                                L51 ∧
    (E (0 : Int)).lt L51) ∧
    (decide
                                                                                    ((E
                                                                                          (anyF fun q =>
                                                                                            g (q + (0 : Nat)))).val =
                                                                                      (E (0 : Int)).val) =
                                                                                  true →
                                                                                ((E
                                                                                          (anyF fun q =>
                                                                                            f (q + (0 : Nat)))).lt
                                                                                      L51 ∧
    (E (0 : Int)).lt L51) ∧
    (hasR
                                                                                          (E
                                                                                              (anyF fun q =>
                                                                                                f
                                                                                                  (q +
                                                                                                    (0 : Nat)))).val =
                                                                                        true →
                                                                                      ((decide
                                                                                                ((E
                                                                                                      (anyF fun q =>
                                                                                                        f
                                                                                                          (q +
                                                                                                            (0 :
                                                                                                              Nat)))).val =
                                                                                                  (E (0 : Int)).val) ==
                                                                                              hasR
                                                                                                (E
                                                                                                    ((E
                                                                                                          (anyF fun q =>
                                                                                                            f
                                                                                                              (q +
                                                                                                                (0 :
                                                                                                                  Nat)))).val +
                                                                                                      (E
                                                                                                          (anyF fun q =>
                                                                                                            f
                                                                                                              (q +
                                                                                                                (0 :
                                                                                                                  Nat)))).val)).val) =
                                                                                            true →
                                                                                          true = true) ∧
    ((decide
                                                                                                ((E
                                                                                                      (anyF fun q =>
                                                                                                        f
                                                                                                          (q +
                                                                                                            (0 :
                                                                                                              Nat)))).val =
                                                                                                  (E (0 : Int)).val) ==
                                                                                              hasR
                                                                                                (E
                                                                                                    ((E
                                                                                                          (anyF fun q =>
                                                                                                            f
                                                                                                              (q +
                                                                                                                (0 :
                                                                                                                  Nat)))).val +
                                                                                                      (E
                                                                                                          (anyF fun q =>
                                                                                                            f
                                                                                                              (q +
                                                                                                                (0 :
                                                                                                                  Nat)))).val)).val) =
                                                                                            false →
                                                                                          ((E
                                                                                                    (anyF fun q =>
                                                                                                      g
                                                                                                        (q +
                                                                                                          (0 :
                                                                                                            Nat)))).lt
                                                                                                L51 ∧
    (E (0 : Int)).lt L51) ∧
    decide
                                                                                                ((E
                                                                                                      (anyF fun q =>
                                                                                                        g
                                                                                                          (q +
                                                                                                            (0 :
                                                                                                              Nat)))).val =
                                                                                                  (E (0 : Int)).val) =
                                                                                              true)) ∧
    (hasR
                                                                                          (E
                                                                                              (anyF fun q =>
                                                                                                f
                                                                                                  (q +
                                                                                                    (0 : Nat)))).val =
                                                                                        false →
                                                                                      ((decide
                                                                                                ((E
                                                                                                      (anyF fun q =>
                                                                                                        f
                                                                                                          (q +
                                                                                                            (0 :
                                                                                                              Nat)))).val =
                                                                                                  (E (0 : Int)).val) ==
                                                                                              false) =
                                                                                            true →
                                                                                          true = true) ∧
    ((decide
                                                                                                ((E
                                                                                                      (anyF fun q =>
                                                                                                        f
                                                                                                          (q +
                                                                                                            (0 :
                                                                                                              Nat)))).val =
                                                                                                  (E (0 : Int)).val) ==
                                                                                              false) =
                                                                                            false →
                                                                                          ((E
                                                                                                    (anyF fun q =>
                                                                                                      g
                                                                                                        (q +
                                                                                                          (0 :
                                                                                                            Nat)))).lt
                                                                                                L51 ∧
    (E (0 : Int)).lt L51) ∧
    decide
                                                                                                ((E
                                                                                                      (anyF fun q =>
                                                                                                        g
                                                                                                          (q +
                                                                                                            (0 :
                                                                                                              Nat)))).val =
                                                                                                  (E (0 : Int)).val) =
                                                                                              true))) ∧
    (decide
                                                                                    ((E
                                                                                          (anyF fun q =>
                                                                                            g (q + (0 : Nat)))).val =
                                                                                      (E (0 : Int)).val) =
                                                                                  false →
                                                                                E (anyF fun q => g (q + (0 : Nat))) =
                                                                                    E
                                                                                      (E
                                                                                          (anyF fun q =>
                                                                                            g (q + (0 : Nat)))).val ∧
    ((E
                                                                                            (anyF fun q =>
                                                                                              f (q + (0 : Nat)))).lt
                                                                                        L51 ∧
    (E
                                                                                            (anyF fun q =>
                                                                                              g (q + (0 : Nat)))).lt
                                                                                        L51) ∧
    E
                                                                                          ((E
                                                                                                (anyF fun q =>
                                                                                                  f
                                                                                                    (q +
                                                                                                      (0 : Nat)))).val *
                                                                                            (E
                                                                                                (anyF fun q =>
                                                                                                  g
                                                                                                    (q +
                                                                                                      (0 :
                                                                                                        Nat)))).val) =
                                                                                        E
                                                                                          (E
                                                                                              ((E
                                                                                                    (anyF fun q =>
                                                                                                      f
                                                                                                        (q +
                                                                                                          (0 :
                                                                                                            Nat)))).val *
                                                                                                (E
                                                                                                    (anyF fun q =>
                                                                                                      g
                                                                                                        (q +
                                                                                                          (0 :
                                                                                                            Nat)))).val)).val ∧
    ((!hasR
                                                                                                  (E
                                                                                                      (anyF fun q =>
                                                                                                        f
                                                                                                          (q +
                                                                                                            (0 :
                                                                                                              Nat)))).val ==
                                                                                                hasR
                                                                                                  (E
                                                                                                      ((E
                                                                                                            (anyF
                                                                                                              fun q =>
                                                                                                              f
                                                                                                                (q +
                                                                                                                  (0 :
                                                                                                                    Nat)))).val +
                                                                                                        (E
                                                                                                            (anyF
                                                                                                              fun q =>
                                                                                                              f
                                                                                                                (q +
                                                                                                                  (0 :
                                                                                                                    Nat)))).val)).val) =
                                                                                            true →
                                                                                          (hasR
                                                                                                (E
                                                                                                    ((E
                                                                                                          (anyF fun q =>
                                                                                                            f
                                                                                                              (q +
                                                                                                                (0 :
                                                                                                                  Nat)))).val *
                                                                                                      (E
                                                                                                          (anyF fun q =>
                                                                                                            g
                                                                                                              (q +
                                                                                                                (0 :
                                                                                                                  Nat)))).val)).val ==
                                                                                              (hasR
                                                                                                  (E
                                                                                                      (anyF fun q =>
                                                                                                        f
                                                                                                          (q +
                                                                                                            (0 :
                                                                                                              Nat)))).val ==
                                                                                                hasR
                                                                                                  (E
                                                                                                      (anyF fun q =>
                                                                                                        g
                                                                                                          (q +
                                                                                                            (0 :
                                                                                                              Nat)))).val)) =
                                                                                            true) ∧
    ((!hasR
                                                                                                  (E
                                                                                                      (anyF fun q =>
                                                                                                        f
                                                                                                          (q +
                                                                                                            (0 :
                                                                                                              Nat)))).val ==
                                                                                                hasR
                                                                                                  (E
                                                                                                      ((E
                                                                                                            (anyF
                                                                                                              fun q =>
                                                                                                              f
                                                                                                                (q +
                                                                                                                  (0 :
                                                                                                                    Nat)))).val +
                                                                                                        (E
                                                                                                            (anyF
                                                                                                              fun q =>
                                                                                                              f
                                                                                                                (q +
                                                                                                                  (0 :
                                                                                                                    Nat)))).val)).val) =
                                                                                            false →
                                                                                          false = true))))) ∧
    ((!hasR (E (anyF fun q => f (q + (0 : Nat)))).val) = false →
                                                              ((E (anyF fun q => f (q + (0 : Nat)))).lt L51 ∧
    (E (0 : Int)).lt L51) ∧
    (decide
                                                                        ((E (anyF fun q => f (q + (0 : Nat)))).val =
                                                                          (E (0 : Int)).val) =
                                                                      true →
                                                                    ((E (anyF fun q => f (q + (0 : Nat)))).lt L51 ∧
    (E (0 : Int)).lt L51) ∧
    (hasR (E (anyF fun q => f (q + (0 : Nat)))).val =
                                                                            true →
                                                                          ((decide
                                                                                    ((E
                                                                                          (anyF fun q =>
                                                                                            f (q + (0 : Nat)))).val =
                                                                                      (E (0 : Int)).val) ==
                                                                                  hasR
                                                                                    (E
                                                                                        ((E
                                                                                              (anyF fun q =>
                                                                                                f
                                                                                                  (q +
                                                                                                    (0 : Nat)))).val +
                                                                                          (E
                                                                                              (anyF fun q =>
                                                                                                f
                                                                                                  (q +
                                                                                                    (0 :
                                                                                                      Nat)))).val)).val) =
                                                                                true →
                                                                              true = true) ∧
    ((decide
                                                                                    ((E
                                                                                          (anyF fun q =>
                                                                                            f (q + (0 : Nat)))).val =
                                                                                      (E (0 : Int)).val) ==
                                                                                  hasR
                                                                                    (E
                                                                                        ((E
                                                                                              (anyF fun q =>
                                                                                                f
                                                                                                  (q +
                                                                                                    (0 : Nat)))).val +
                                                                                          (E
                                                                                              (anyF fun q =>
                                                                                                f
                                                                                                  (q +
                                                                                                    (0 :
                                                                                                      Nat)))).val)).val) =
                                                                                false →
                                                                              ((E (anyF fun q => g (q + (0 : Nat)))).lt
                                                                                    L51 ∧
    (E (0 : Int)).lt L51) ∧
    decide
                                                                                    ((E
                                                                                          (anyF fun q =>
                                                                                            g (q + (0 : Nat)))).val =
                                                                                      (E (0 : Int)).val) =
                                                                                  true)) ∧
    (hasR
                                                                              (E
                                                                                  (anyF fun q =>
                                                                                    f (q + (0 : Nat)))).val =
                                                                            false →
                                                                          ((decide
                                                                                    ((E
                                                                                          (anyF fun q =>
                                                                                            f (q + (0 : Nat)))).val =
                                                                                      (E (0 : Int)).val) ==
                                                                                  false) =
                                                                                true →
                                                                              true = true) ∧
    ((decide
                                                                                    ((E
                                                                                          (anyF fun q =>
                                                                                            f (q + (0 : Nat)))).val =
                                                                                      (E (0 : Int)).val) ==
                                                                                  false) =
                                                                                false →
                                                                              ((E (anyF fun q => g (q + (0 : Nat)))).lt
                                                                                    L51 ∧
    (E (0 : Int)).lt L51) ∧
    decide
                                                                                    ((E
                                                                                          (anyF fun q =>
                                                                                            g (q + (0 : Nat)))).val =
                                                                                      (E (0 : Int)).val) =
                                                                                  true))) ∧
    (decide
                                                                        ((E (anyF fun q => f (q + (0 : Nat)))).val =
                                                                          (E (0 : Int)).val) =
                                                                      false →
                                                                    ((E (anyF fun q => g (q + (0 : Nat)))).lt L51 ∧
    (E (0 : Int)).lt L51) ∧
    (decide
                                                                              ((E
                                                                                    (anyF fun q =>
                                                                                      g (q + (0 : Nat)))).val =
                                                                                (E (0 : Int)).val) =
                                                                            true →
                                                                          ((E (anyF fun q => f (q + (0 : Nat)))).lt
                                                                                L51 ∧
    (E (0 : Int)).lt L51) ∧
    (hasR
                                                                                    (E
                                                                                        (anyF fun q =>
                                                                                          f (q + (0 : Nat)))).val =
                                                                                  true →
                                                                                ((decide
                                                                                          ((E
                                                                                                (anyF fun q =>
                                                                                                  f
                                                                                                    (q +
                                                                                                      (0 : Nat)))).val =
                                                                                            (E (0 : Int)).val) ==
                                                                                        hasR
                                                                                          (E
                                                                                              ((E
                                                                                                    (anyF fun q =>
                                                                                                      f
                                                                                                        (q +
                                                                                                          (0 :
                                                                                                            Nat)))).val +
                                                                                                (E
                                                                                                    (anyF fun q =>
                                                                                                      f
                                                                                                        (q +
                                                                                                          (0 :
                                                                                                            Nat)))).val)).val) =
                                                                                      true →
                                                                                    true = true) ∧
    ((decide
                                                                                          ((E
                                                                                                (anyF fun q =>
                                                                                                  f
                                                                                                    (q +
                                                                                                      (0 : Nat)))).val =
                                                                                            (E (0 : Int)).val) ==
                                                                                        hasR
                                                                                          (E
                                                                                              ((E
                                                                                                    (anyF fun q =>
                                                                                                      f
                                                                                                        (q +
                                                                                                          (0 :
                                                                                                            Nat)))).val +
                                                                                                (E
                                                                                                    (anyF fun q =>
                                                                                                      f
                                                                                                        (q +
                                                                                                          (0 :
                                                                                                            Nat)))).val)).val) =
                                                                                      false →
                                                                                    ((E
                                                                                              (anyF fun q =>
                                                                                                g (q + (0 : Nat)))).lt
                                                                                          L51 ∧
    (E (0 : Int)).lt L51) ∧
    decide
                                                                                          ((E
                                                                                                (anyF fun q =>
                                                                                                  g
                                                                                                    (q +
                                                                                                      (0 : Nat)))).val =
                                                                                            (E (0 : Int)).val) =
                                                                                        true)) ∧
    (hasR
                                                                                    (E
                                                                                        (anyF fun q =>
                                                                                          f (q + (0 : Nat)))).val =
                                                                                  false →
                                                                                ((decide
                                                                                          ((E
                                                                                                (anyF fun q =>
                                                                                                  f
                                                                                                    (q +
                                                                                                      (0 : Nat)))).val =
                                                                                            (E (0 : Int)).val) ==
                                                                                        false) =
                                                                                      true →
                                                                                    true = true) ∧
    ((decide
                                                                                          ((E
                                                                                                (anyF fun q =>
                                                                                                  f
                                                                                                    (q +
                                                                                                      (0 : Nat)))).val =
                                                                                            (E (0 : Int)).val) ==
                                                                                        false) =
                                                                                      false →
                                                                                    ((E
                                                                                              (anyF fun q =>
                                                                                                g (q + (0 : Nat)))).lt
                                                                                          L51 ∧
    (E (0 : Int)).lt L51) ∧
    decide
                                                                                          ((E
                                                                                                (anyF fun q =>
                                                                                                  g
                                                                                                    (q +
                                                                                                      (0 : Nat)))).val =
                                                                                            (E (0 : Int)).val) =
                                                                                        true))) ∧
    (decide
                                                                              ((E
                                                                                    (anyF fun q =>
                                                                                      g (q + (0 : Nat)))).val =
                                                                                (E (0 : Int)).val) =
                                                                            false →
                                                                          E (anyF fun q => g (q + (0 : Nat))) =
                                                                              E
                                                                                (E
                                                                                    (anyF fun q =>
                                                                                      g (q + (0 : Nat)))).val ∧
    ((E (anyF fun q => f (q + (0 : Nat)))).lt
                                                                                  L51 ∧
    (E (anyF fun q => g (q + (0 : Nat)))).lt
                                                                                  L51) ∧
    E
                                                                                    ((E
                                                                                          (anyF fun q =>
                                                                                            f (q + (0 : Nat)))).val *
                                                                                      (E
                                                                                          (anyF fun q =>
                                                                                            g (q + (0 : Nat)))).val) =
                                                                                  E
                                                                                    (E
                                                                                        ((E
                                                                                              (anyF fun q =>
                                                                                                f
                                                                                                  (q +
                                                                                                    (0 : Nat)))).val *
                                                                                          (E
                                                                                              (anyF fun q =>
                                                                                                g
                                                                                                  (q +
                                                                                                    (0 :
                                                                                                      Nat)))).val)).val ∧
    ((!hasR
                                                                                            (E
                                                                                                (anyF fun q =>
                                                                                                  f
                                                                                                    (q +
                                                                                                      (0 :
                                                                                                        Nat)))).val ==
                                                                                          hasR
                                                                                            (E
                                                                                                ((E
                                                                                                      (anyF fun q =>
                                                                                                        f
                                                                                                          (q +
                                                                                                            (0 :
                                                                                                              Nat)))).val +
                                                                                                  (E
                                                                                                      (anyF fun q =>
                                                                                                        f
                                                                                                          (q +
                                                                                                            (0 :
                                                                                                              Nat)))).val)).val) =
                                                                                      true →
                                                                                    (hasR
                                                                                          (E
                                                                                              ((E
                                                                                                    (anyF fun q =>
                                                                                                      f
                                                                                                        (q +
                                                                                                          (0 :
                                                                                                            Nat)))).val *
                                                                                                (E
                                                                                                    (anyF fun q =>
                                                                                                      g
                                                                                                        (q +
                                                                                                          (0 :
                                                                                                            Nat)))).val)).val ==
                                                                                        (hasR
                                                                                            (E
                                                                                                (anyF fun q =>
                                                                                                  f
                                                                                                    (q +
                                                                                                      (0 :
                                                                                                        Nat)))).val ==
                                                                                          hasR
                                                                                            (E
                                                                                                (anyF fun q =>
                                                                                                  g
                                                                                                    (q +
                                                                                                      (0 :
                                                                                                        Nat)))).val)) =
                                                                                      true) ∧
    ((!hasR
                                                                                            (E
                                                                                                (anyF fun q =>
                                                                                                  f
                                                                                                    (q +
                                                                                                      (0 :
                                                                                                        Nat)))).val ==
                                                                                          hasR
                                                                                            (E
                                                                                                ((E
                                                                                                      (anyF fun q =>
                                                                                                        f
                                                                                                          (q +
                                                                                                            (0 :
                                                                                                              Nat)))).val +
                                                                                                  (E
                                                                                                      (anyF fun q =>
                                                                                                        f
                                                                                                          (q +
                                                                                                            (0 :
                                                                                                              Nat)))).val)).val) =
                                                                                      false →
                                                                                    false = true)))))) ∧
    (hasR (E (anyF fun q => f (q + (0 : Nat)))).val = false →
                                                  ((!hasR (E (anyF fun q => f (q + (0 : Nat)))).val) = true →
                                                      ((E (rootV (E (anyF fun q => f (q + (0 : Nat)))).val)).lt L51 ∧
    (E (0 : Int)).lt L51) ∧
    ((!decide
                                                                  ((E
                                                                        (rootV
                                                                          (E
                                                                              (anyF fun q =>
                                                                                f (q + (0 : Nat)))).val)).val =
                                                                    (E (0 : Int)).val)) =
                                                              true →
                                                            false = true) ∧
    ((!decide
                                                                  ((E
                                                                        (rootV
                                                                          (E
                                                                              (anyF fun q =>
                                                                                f (q + (0 : Nat)))).val)).val =
                                                                    (E (0 : Int)).val)) =
                                                              false →
                                                            ((E (anyF fun q => f (q + (0 : Nat)))).lt L51 ∧
    (E (0 : Int)).lt L51) ∧
    (decide
                                                                      ((E (anyF fun q => f (q + (0 : Nat)))).val =
                                                                        (E (0 : Int)).val) =
                                                                    true →
                                                                  ((E (anyF fun q => f (q + (0 : Nat)))).lt L51 ∧
    (E (0 : Int)).lt L51) ∧
    (hasR (E (anyF fun q => f (q + (0 : Nat)))).val =
                                                                          true →
                                                                        ((decide
                                                                                  ((E
                                                                                        (anyF fun q =>
                                                                                          f (q + (0 : Nat)))).val =
                                                                                    (E (0 : Int)).val) ==
                                                                                hasR
                                                                                  (E
                                                                                      ((E
                                                                                            (anyF fun q =>
                                                                                              f (q + (0 : Nat)))).val +
                                                                                        (E
                                                                                            (anyF fun q =>
                                                                                              f
                                                                                                (q +
                                                                                                  (0 :
                                                                                                    Nat)))).val)).val) =
                                                                              true →
                                                                            true = true) ∧
    ((decide
                                                                                  ((E
                                                                                        (anyF fun q =>
                                                                                          f (q + (0 : Nat)))).val =
                                                                                    (E (0 : Int)).val) ==
                                                                                hasR
                                                                                  (E
                                                                                      ((E
                                                                                            (anyF fun q =>
                                                                                              f (q + (0 : Nat)))).val +
                                                                                        (E
                                                                                            (anyF fun q =>
                                                                                              f
                                                                                                (q +
                                                                                                  (0 :
                                                                                                    Nat)))).val)).val) =
                                                                              false →
                                                                            ((E (anyF fun q => g (q + (0 : Nat)))).lt
                                                                                  L51 ∧
    (E (0 : Int)).lt L51) ∧
    decide
                                                                                  ((E
                                                                                        (anyF fun q =>
                                                                                          g (q + (0 : Nat)))).val =
                                                                                    (E (0 : Int)).val) =
                                                                                true)) ∧
    (hasR (E (anyF fun q => f (q + (0 : Nat)))).val =
                                                                          false →
                                                                        ((decide
                                                                                  ((E
                                                                                        (anyF fun q =>
                                                                                          f (q + (0 : Nat)))).val =
                                                                                    (E (0 : Int)).val) ==
                                                                                false) =
                                                                              true →
                                                                            true = true) ∧
    ((decide
                                                                                  ((E
                                                                                        (anyF fun q =>
                                                                                          f (q + (0 : Nat)))).val =
                                                                                    (E (0 : Int)).val) ==
                                                                                false) =
                                                                              false →
                                                                            ((E (anyF fun q => g (q + (0 : Nat)))).lt
                                                                                  L51 ∧
    (E (0 : Int)).lt L51) ∧
    decide
                                                                                  ((E
                                                                                        (anyF fun q =>
                                                                                          g (q + (0 : Nat)))).val =
                                                                                    (E (0 : Int)).val) =
                                                                                true))) ∧
    (decide
                                                                      ((E (anyF fun q => f (q + (0 : Nat)))).val =
                                                                        (E (0 : Int)).val) =
                                                                    false →
                                                                  ((E (anyF fun q => g (q + (0 : Nat)))).lt L51 ∧
    (E (0 : Int)).lt L51) ∧
    (decide
                                                                            ((E (anyF fun q => g (q + (0 : Nat)))).val =
                                                                              (E (0 : Int)).val) =
                                                                          true →
                                                                        ((E (anyF fun q => f (q + (0 : Nat)))).lt L51 ∧
    (E (0 : Int)).lt L51) ∧
    (hasR
                                                                                  (E
                                                                                      (anyF fun q =>
                                                                                        f (q + (0 : Nat)))).val =
                                                                                true →
                                                                              ((decide
                                                                                        ((E
                                                                                              (anyF fun q =>
                                                                                                f
                                                                                                  (q +
                                                                                                    (0 : Nat)))).val =
                                                                                          (E (0 : Int)).val) ==
                                                                                      hasR
                                                                                        (E
                                                                                            ((E
                                                                                                  (anyF fun q =>
                                                                                                    f
                                                                                                      (q +
                                                                                                        (0 :
                                                                                                          Nat)))).val +
                                                                                              (E
                                                                                                  (anyF fun q =>
                                                                                                    f
                                                                                                      (q +
                                                                                                        (0 :
                                                                                                          Nat)))).val)).val) =
                                                                                    true →
                                                                                  true = true) ∧
    ((decide
                                                                                        ((E
                                                                                              (anyF fun q =>
                                                                                                f
                                                                                                  (q +
                                                                                                    (0 : Nat)))).val =
                                                                                          (E (0 : Int)).val) ==
                                                                                      hasR
                                                                                        (E
                                                                                            ((E
                                                                                                  (anyF fun q =>
                                                                                                    f
                                                                                                      (q +
                                                                                                        (0 :
                                                                                                          Nat)))).val +
                                                                                              (E
                                                                                                  (anyF fun q =>
                                                                                                    f
                                                                                                      (q +
                                                                                                        (0 :
                                                                                                          Nat)))).val)).val) =
                                                                                    false →
                                                                                  ((E
                                                                                            (anyF fun q =>
                                                                                              g (q + (0 : Nat)))).lt
                                                                                        L51 ∧
    (E (0 : Int)).lt L51) ∧
    decide
                                                                                        ((E
                                                                                              (anyF fun q =>
                                                                                                g
                                                                                                  (q +
                                                                                                    (0 : Nat)))).val =
                                                                                          (E (0 : Int)).val) =
                                                                                      true)) ∧
    (hasR
                                                                                  (E
                                                                                      (anyF fun q =>
                                                                                        f (q + (0 : Nat)))).val =
                                                                                false →
                                                                              ((decide
                                                                                        ((E
                                                                                              (anyF fun q =>
                                                                                                f
                                                                                                  (q +
                                                                                                    (0 : Nat)))).val =
                                                                                          (E (0 : Int)).val) ==
                                                                                      false) =
                                                                                    true →
                                                                                  true = true) ∧
    ((decide
                                                                                        ((E
                                                                                              (anyF fun q =>
                                                                                                f
                                                                                                  (q +
                                                                                                    (0 : Nat)))).val =
                                                                                          (E (0 : Int)).val) ==
                                                                                      false) =
                                                                                    false →
                                                                                  ((E
                                                                                            (anyF fun q =>
                                                                                              g (q + (0 : Nat)))).lt
                                                                                        L51 ∧
    (E (0 : Int)).lt L51) ∧
    decide
                                                                                        ((E
                                                                                              (anyF fun q =>
                                                                                                g
                                                                                                  (q +
                                                                                                    (0 : Nat)))).val =
                                                                                          (E (0 : Int)).val) =
                                                                                      true))) ∧
    (decide
                                                                            ((E (anyF fun q => g (q + (0 : Nat)))).val =
                                                                              (E (0 : Int)).val) =
                                                                          false →
                                                                        E (anyF fun q => g (q + (0 : Nat))) =
                                                                            E
                                                                              (E
                                                                                  (anyF fun q =>
                                                                                    g (q + (0 : Nat)))).val ∧
    ((E (anyF fun q => f (q + (0 : Nat)))).lt
                                                                                L51 ∧
    (E (anyF fun q => g (q + (0 : Nat)))).lt
                                                                                L51) ∧
    E
                                                                                  ((E
                                                                                        (anyF fun q =>
                                                                                          f (q + (0 : Nat)))).val *
                                                                                    (E
                                                                                        (anyF fun q =>
                                                                                          g (q + (0 : Nat)))).val) =
                                                                                E
                                                                                  (E
                                                                                      ((E
                                                                                            (anyF fun q =>
                                                                                              f (q + (0 : Nat)))).val *
                                                                                        (E
                                                                                            (anyF fun q =>
                                                                                              g
                                                                                                (q +
                                                                                                  (0 :
                                                                                                    Nat)))).val)).val ∧
    ((!hasR
                                                                                          (E
                                                                                              (anyF fun q =>
                                                                                                f
                                                                                                  (q +
                                                                                                    (0 : Nat)))).val ==
                                                                                        hasR
                                                                                          (E
                                                                                              ((E
                                                                                                    (anyF fun q =>
                                                                                                      f
                                                                                                        (q +
                                                                                                          (0 :
                                                                                                            Nat)))).val +
                                                                                                (E
                                                                                                    (anyF fun q =>
                                                                                                      f
                                                                                                        (q +
                                                                                                          (0 :
                                                                                                            Nat)))).val)).val) =
                                                                                    true →
                                                                                  (hasR
                                                                                        (E
                                                                                            ((E
                                                                                                  (anyF fun q =>
                                                                                                    f
                                                                                                      (q +
                                                                                                        (0 :
                                                                                                          Nat)))).val *
                                                                                              (E
                                                                                                  (anyF fun q =>
                                                                                                    g
                                                                                                      (q +
                                                                                                        (0 :
                                                                                                          Nat)))).val)).val ==
                                                                                      (hasR
                                                                                          (E
                                                                                              (anyF fun q =>
                                                                                                f
                                                                                                  (q +
                                                                                                    (0 : Nat)))).val ==
                                                                                        hasR
                                                                                          (E
                                                                                              (anyF fun q =>
                                                                                                g
                                                                                                  (q +
                                                                                                    (0 : Nat)))).val)) =
                                                                                    true) ∧
    ((!hasR
                                                                                          (E
                                                                                              (anyF fun q =>
                                                                                                f
                                                                                                  (q +
                                                                                                    (0 : Nat)))).val ==
                                                                                        hasR
                                                                                          (E
                                                                                              ((E
                                                                                                    (anyF fun q =>
                                                                                                      f
                                                                                                        (q +
                                                                                                          (0 :
                                                                                                            Nat)))).val +
                                                                                                (E
                                                                                                    (anyF fun q =>
                                                                                                      f
                                                                                                        (q +
                                                                                                          (0 :
                                                                                                            Nat)))).val)).val) =
                                                                                    false →
                                                                                  false = true))))) ∧
    ((!hasR (E (anyF fun q => f (q + (0 : Nat)))).val) = false →
                                                      ((E (anyF fun q => f (q + (0 : Nat)))).lt L51 ∧
    (E (0 : Int)).lt L51) ∧
    (decide
                                                                ((E (anyF fun q => f (q + (0 : Nat)))).val =
                                                                  (E (0 : Int)).val) =
                                                              true →
                                                            ((E (anyF fun q => f (q + (0 : Nat)))).lt L51 ∧
    (E (0 : Int)).lt L51) ∧
    (hasR (E (anyF fun q => f (q + (0 : Nat)))).val = true →
                                                                  ((decide
                                                                            ((E (anyF fun q => f (q + (0 : Nat)))).val =
                                                                              (E (0 : Int)).val) ==
                                                                          hasR
                                                                            (E
                                                                                ((E
                                                                                      (anyF fun q =>
                                                                                        f (q + (0 : Nat)))).val +
                                                                                  (E
                                                                                      (anyF fun q =>
                                                                                        f (q + (0 : Nat)))).val)).val) =
                                                                        true →
                                                                      true = true) ∧
    ((decide
                                                                            ((E (anyF fun q => f (q + (0 : Nat)))).val =
                                                                              (E (0 : Int)).val) ==
                                                                          hasR
                                                                            (E
                                                                                ((E
                                                                                      (anyF fun q =>
                                                                                        f (q + (0 : Nat)))).val +
                                                                                  (E
                                                                                      (anyF fun q =>
                                                                                        f (q + (0 : Nat)))).val)).val) =
                                                                        false →
                                                                      ((E (anyF fun q => g (q + (0 : Nat)))).lt L51 ∧
    (E (0 : Int)).lt L51) ∧
    decide
                                                                            ((E (anyF fun q => g (q + (0 : Nat)))).val =
                                                                              (E (0 : Int)).val) =
                                                                          true)) ∧
    (hasR (E (anyF fun q => f (q + (0 : Nat)))).val =
                                                                    false →
                                                                  ((decide
                                                                            ((E (anyF fun q => f (q + (0 : Nat)))).val =
                                                                              (E (0 : Int)).val) ==
                                                                          false) =
                                                                        true →
                                                                      true = true) ∧
    ((decide
                                                                            ((E (anyF fun q => f (q + (0 : Nat)))).val =
                                                                              (E (0 : Int)).val) ==
                                                                          false) =
                                                                        false →
                                                                      ((E (anyF fun q => g (q + (0 : Nat)))).lt L51 ∧
    (E (0 : Int)).lt L51) ∧
    decide
                                                                            ((E (anyF fun q => g (q + (0 : Nat)))).val =
                                                                              (E (0 : Int)).val) =
                                                                          true))) ∧
    (decide
                                                                ((E (anyF fun q => f (q + (0 : Nat)))).val =
                                                                  (E (0 : Int)).val) =
                                                              false →
                                                            ((E (anyF fun q => g (q + (0 : Nat)))).lt L51 ∧
    (E (0 : Int)).lt L51) ∧
    (decide
                                                                      ((E (anyF fun q => g (q + (0 : Nat)))).val =
                                                                        (E (0 : Int)).val) =
                                                                    true →
                                                                  ((E (anyF fun q => f (q + (0 : Nat)))).lt L51 ∧
    (E (0 : Int)).lt L51) ∧
    (hasR (E (anyF fun q => f (q + (0 : Nat)))).val =
                                                                          true →
                                                                        ((decide
                                                                                  ((E
                                                                                        (anyF fun q =>
                                                                                          f (q + (0 : Nat)))).val =
                                                                                    (E (0 : Int)).val) ==
                                                                                hasR
                                                                                  (E
                                                                                      ((E
                                                                                            (anyF fun q =>
                                                                                              f (q + (0 : Nat)))).val +
                                                                                        (E
                                                                                            (anyF fun q =>
                                                                                              f
                                                                                                (q +
                                                                                                  (0 :
                                                                                                    Nat)))).val)).val) =
                                                                              true →
                                                                            true = true) ∧
    ((decide
                                                                                  ((E
                                                                                        (anyF fun q =>
                                                                                          f (q + (0 : Nat)))).val =
                                                                                    (E (0 : Int)).val) ==
                                                                                hasR
                                                                                  (E
                                                                                      ((E
                                                                                            (anyF fun q =>
                                                                                              f (q + (0 : Nat)))).val +
                                                                                        (E
                                                                                            (anyF fun q =>
                                                                                              f
                                                                                                (q +
                                                                                                  (0 :
                                                                                                    Nat)))).val)).val) =
                                                                              false →
                                                                            ((E (anyF fun q => g (q + (0 : Nat)))).lt
                                                                                  L51 ∧
    (E (0 : Int)).lt L51) ∧
    decide
                                                                                  ((E
                                                                                        (anyF fun q =>
                                                                                          g (q + (0 : Nat)))).val =
                                                                                    (E (0 : Int)).val) =
                                                                                true)) ∧
    (hasR (E (anyF fun q => f (q + (0 : Nat)))).val =
                                                                          false →
                                                                        ((decide
                                                                                  ((E
                                                                                        (anyF fun q =>
                                                                                          f (q + (0 : Nat)))).val =
                                                                                    (E (0 : Int)).val) ==
                                                                                false) =
                                                                              true →
                                                                            true = true) ∧
    ((decide
                                                                                  ((E
                                                                                        (anyF fun q =>
                                                                                          f (q + (0 : Nat)))).val =
                                                                                    (E (0 : Int)).val) ==
                                                                                false) =
                                                                              false →
                                                                            ((E (anyF fun q => g (q + (0 : Nat)))).lt
                                                                                  L51 ∧
    (E (0 : Int)).lt L51) ∧
    decide
                                                                                  ((E
                                                                                        (anyF fun q =>
                                                                                          g (q + (0 : Nat)))).val =
                                                                                    (E (0 : Int)).val) =
                                                                                true))) ∧
    (decide
                                                                      ((E (anyF fun q => g (q + (0 : Nat)))).val =
                                                                        (E (0 : Int)).val) =
                                                                    false →
                                                                  E (anyF fun q => g (q + (0 : Nat))) =
                                                                      E (E (anyF fun q => g (q + (0 : Nat)))).val ∧
    ((E (anyF fun q => f (q + (0 : Nat)))).lt L51 ∧
    (E (anyF fun q => g (q + (0 : Nat)))).lt L51) ∧
    E
                                                                            ((E (anyF fun q => f (q + (0 : Nat)))).val *
                                                                              (E
                                                                                  (anyF fun q =>
                                                                                    g (q + (0 : Nat)))).val) =
                                                                          E
                                                                            (E
                                                                                ((E
                                                                                      (anyF fun q =>
                                                                                        f (q + (0 : Nat)))).val *
                                                                                  (E
                                                                                      (anyF fun q =>
                                                                                        g (q + (0 : Nat)))).val)).val ∧
    ((!hasR
                                                                                    (E
                                                                                        (anyF fun q =>
                                                                                          f (q + (0 : Nat)))).val ==
                                                                                  hasR
                                                                                    (E
                                                                                        ((E
                                                                                              (anyF fun q =>
                                                                                                f
                                                                                                  (q +
                                                                                                    (0 : Nat)))).val +
                                                                                          (E
                                                                                              (anyF fun q =>
                                                                                                f
                                                                                                  (q +
                                                                                                    (0 :
                                                                                                      Nat)))).val)).val) =
                                                                              true →
                                                                            (hasR
                                                                                  (E
                                                                                      ((E
                                                                                            (anyF fun q =>
                                                                                              f (q + (0 : Nat)))).val *
                                                                                        (E
                                                                                            (anyF fun q =>
                                                                                              g
                                                                                                (q +
                                                                                                  (0 :
                                                                                                    Nat)))).val)).val ==
                                                                                (hasR
                                                                                    (E
                                                                                        (anyF fun q =>
                                                                                          f (q + (0 : Nat)))).val ==
                                                                                  hasR
                                                                                    (E
                                                                                        (anyF fun q =>
                                                                                          g (q + (0 : Nat)))).val)) =
                                                                              true) ∧
    ((!hasR
                                                                                    (E
                                                                                        (anyF fun q =>
                                                                                          f (q + (0 : Nat)))).val ==
                                                                                  hasR
                                                                                    (E
                                                                                        ((E
                                                                                              (anyF fun q =>
                                                                                                f
                                                                                                  (q +
                                                                                                    (0 : Nat)))).val +
                                                                                          (E
                                                                                              (anyF fun q =>
                                                                                                f
                                                                                                  (q +
                                                                                                    (0 :
                                                                                                      Nat)))).val)).val) =
                                                                              false →
                                                                            false = true))))))) ∧
    ((!decide
                                      ((E
                                            (rootV
                                              (E
                                                  ((E (anyF fun q => f (q + (0 : Nat)))).val *
                                                    (E (anyF fun q => f (q + (0 : Nat)))).val)).val)).val =
                                        (E (anyF fun q => f (q + (0 : Nat)))).val)) =
                                  false →
                                E (anyF fun q => f (q + (0 : Nat))) = E (E (anyF fun q => f (q + (0 : Nat)))).val ∧
    ((E (anyF fun q => f (q + (0 : Nat)))).lt L51 ∧
    (E (anyF fun q => f (q + (0 : Nat)))).lt L51) ∧
    E
                                          ((E (anyF fun q => f (q + (0 : Nat)))).val +
                                            (E (anyF fun q => f (q + (0 : Nat)))).val) =
                                        E
                                          (E
                                              ((E (anyF fun q => f (q + (0 : Nat)))).val +
                                                (E (anyF fun q => f (q + (0 : Nat)))).val)).val ∧
    (hasR (E (anyF fun q => f (q + (0 : Nat)))).val = true →
                                          ((E (rootV (E (anyF fun q => f (q + (0 : Nat)))).val)).lt L51 ∧
    (E (rootV (E (anyF fun q => f (q + (0 : Nat)))).val)).lt L51) ∧
    ((E
                                                      ((E (rootV (E (anyF fun q => f (q + (0 : Nat)))).val)).val *
                                                        (E (rootV (E (anyF fun q => f (q + (0 : Nat)))).val)).val)).lt
                                                  L51 ∧
    (E (anyF fun q => f (q + (0 : Nat)))).lt L51) ∧
    ((!decide
                                                        ((E
                                                              ((E
                                                                    (rootV
                                                                      (E (anyF fun q => f (q + (0 : Nat)))).val)).val *
                                                                (E
                                                                    (rootV
                                                                      (E
                                                                          (anyF fun q =>
                                                                            f (q + (0 : Nat)))).val)).val)).val =
                                                          (E (anyF fun q => f (q + (0 : Nat)))).val)) =
                                                    true →
                                                  false = true) ∧
    ((!decide
                                                        ((E
                                                              ((E
                                                                    (rootV
                                                                      (E (anyF fun q => f (q + (0 : Nat)))).val)).val *
                                                                (E
                                                                    (rootV
                                                                      (E
                                                                          (anyF fun q =>
                                                                            f (q + (0 : Nat)))).val)).val)).val =
                                                          (E (anyF fun q => f (q + (0 : Nat)))).val)) =
                                                    false →
                                                  ((!hasR (E (anyF fun q => f (q + (0 : Nat)))).val) = true →
                                                      ((E (rootV (E (anyF fun q => f (q + (0 : Nat)))).val)).lt L51 ∧
    (E (0 : Int)).lt L51) ∧
    ((!decide
                                                                  ((E
                                                                        (rootV
                                                                          (E
                                                                              (anyF fun q =>
                                                                                f (q + (0 : Nat)))).val)).val =
                                                                    (E (0 : Int)).val)) =
                                                              true →
                                                            false = true) ∧
    ((!decide
                                                                  ((E
                                                                        (rootV
                                                                          (E
                                                                              (anyF fun q =>
                                                                                f (q + (0 : Nat)))).val)).val =
                                                                    (E (0 : Int)).val)) =
                                                              false →
                                                            ((E (anyF fun q => f (q + (0 : Nat)))).lt L51 ∧
    (E (0 : Int)).lt L51) ∧
    (decide
                                                                      ((E (anyF fun q => f (q + (0 : Nat)))).val =
                                                                        (E (0 : Int)).val) =
                                                                    true →
                                                                  ((E (anyF fun q => f (q + (0 : Nat)))).lt L51 ∧
    (E (0 : Int)).lt L51) ∧
    (hasR (E (anyF fun q => f (q + (0 : Nat)))).val =
                                                                          true →
                                                                        ((decide
                                                                                  ((E
                                                                                        (anyF fun q =>
                                                                                          f (q + (0 : Nat)))).val =
                                                                                    (E (0 : Int)).val) ==
                                                                                hasR
                                                                                  (E
                                                                                      ((E
                                                                                            (anyF fun q =>
                                                                                              f (q + (0 : Nat)))).val +
                                                                                        (E
                                                                                            (anyF fun q =>
                                                                                              f
                                                                                                (q +
                                                                                                  (0 :
                                                                                                    Nat)))).val)).val) =
                                                                              true →
                                                                            true = true) ∧
    ((decide
                                                                                  ((E
                                                                                        (anyF fun q =>
                                                                                          f (q + (0 : Nat)))).val =
                                                                                    (E (0 : Int)).val) ==
                                                                                hasR
                                                                                  (E
                                                                                      ((E
                                                                                            (anyF fun q =>
                                                                                              f (q + (0 : Nat)))).val +
                                                                                        (E
                                                                                            (anyF fun q =>
                                                                                              f
                                                                                                (q +
                                                                                                  (0 :
                                                                                                    Nat)))).val)).val) =
                                                                              false →
                                                                            ((E (anyF fun q => g (q + (0 : Nat)))).lt
                                                                                  L51 ∧
    (E (0 : Int)).lt L51) ∧
    decide
                                                                                  ((E
                                                                                        (anyF fun q =>
                                                                                          g (q + (0 : Nat)))).val =
                                                                                    (E (0 : Int)).val) =
                                                                                true)) ∧
    (hasR (E (anyF fun q => f (q + (0 : Nat)))).val =
                                                                          false →
                                                                        ((decide
                                                                                  ((E
                                                                                        (anyF fun q =>
                                                                                          f (q + (0 : Nat)))).val =
                                                                                    (E (0 : Int)).val) ==
                                                                                false) =
                                                                              true →
                                                                            true = true) ∧
    ((decide
                                                                                  ((E
                                                                                        (anyF fun q =>
                                                                                          f (q + (0 : Nat)))).val =
                                                                                    (E (0 : Int)).val) ==
                                                                                false) =
                                                                              false →
                                                                            ((E (anyF fun q => g (q + (0 : Nat)))).lt
                                                                                  L51 ∧
    (E (0 : Int)).lt L51) ∧
    decide
                                                                                  ((E
                                                                                        (anyF fun q =>
                                                                                          g (q + (0 : Nat)))).val =
                                                                                    (E (0 : Int)).val) =
                                                                                true))) ∧
    (decide
                                                                      ((E (anyF fun q => f (q + (0 : Nat)))).val =
                                                                        (E (0 : Int)).val) =
                                                                    false →
                                                                  ((E (anyF fun q => g (q + (0 : Nat)))).lt L51 ∧
    (E (0 : Int)).lt L51) ∧
    (decide
                                                                            ((E (anyF fun q => g (q + (0 : Nat)))).val =
                                                                              (E (0 : Int)).val) =
                                                                          true →
                                                                        ((E (anyF fun q => f (q + (0 : Nat)))).lt L51 ∧
    (E (0 : Int)).lt L51) ∧
    (hasR
                                                                                  (E
                                                                                      (anyF fun q =>
                                                                                        f (q + (0 : Nat)))).val =
                                                                                true →
                                                                              ((decide
                                                                                        ((E
                                                                                              (anyF fun q =>
                                                                                                f
                                                                                                  (q +
                                                                                                    (0 : Nat)))).val =
                                                                                          (E (0 : Int)).val) ==
                                                                                      hasR
                                                                                        (E
                                                                                            ((E
                                                                                                  (anyF fun q =>
                                                                                                    f
                                                                                                      (q +
                                                                                                        (0 :
                                                                                                          Nat)))).val +
                                                                                              (E
                                                                                                  (anyF fun q =>
                                                                                                    f
                                                                                                      (q +
                                                                                                        (0 :
                                                                                                          Nat)))).val)).val) =
                                                                                    true →
                                                                                  true = true) ∧
    ((decide
                                                                                        ((E
                                                                                              (anyF fun q =>
                                                                                                f
                                                                                                  (q +
                                                                                                    (0 : Nat)))).val =
                                                                                          (E (0 : Int)).val) ==
                                                                                      hasR
                                                                                        (E
                                                                                            ((E
                                                                                                  (anyF fun q =>
                                                                                                    f
                                                                                                      (q +
                                                                                                        (0 :
                                                                                                          Nat)))).val +
                                                                                              (E
                                                                                                  (anyF fun q =>
                                                                                                    f
                                                                                                      (q +
                                                                                                        (0 :
                                                                                                          Nat)))).val)).val) =
                                                                                    false →
                                                                                  ((E
                                                                                            (anyF fun q =>
                                                                                              g (q + (0 : Nat)))).lt
                                                                                        L51 ∧
    (E (0 : Int)).lt L51) ∧
    decide
                                                                                        ((E
                                                                                              (anyF fun q =>
                                                                                                g
                                                                                                  (q +
                                                                                                    (0 : Nat)))).val =
                                                                                          (E (0 : Int)).val) =
                                                                                      true)) ∧
    (hasR
                                                                                  (E
                                                                                      (anyF fun q =>
                                                                                        f (q + (0 : Nat)))).val =
                                                                                false →
                                                                              ((decide
                                                                                        ((E
                                                                                              (anyF fun q =>
                                                                                                f
                                                                                                  (q +
                                                                                                    (0 : Nat)))).val =
                                                                                          (E (0 : Int)).val) ==
                                                                                      false) =
                                                                                    true →
                                                                                  true = true) ∧
    ((decide
                                                                                        ((E
                                                                                              (anyF fun q =>
                                                                                                f
                                                                                                  (q +
                                                                                                    (0 : Nat)))).val =
                                                                                          (E (0 : Int)).val) ==
                                                                                      false) =
                                                                                    false →
                                                                                  ((E
                                                                                            (anyF fun q =>
                                                                                              g (q + (0 : Nat)))).lt
                                                                                        L51 ∧
    (E (0 : Int)).lt L51) ∧
    decide
                                                                                        ((E
                                                                                              (anyF fun q =>
                                                                                                g
                                                                                                  (q +
                                                                                                    (0 : Nat)))).val =
                                                                                          (E (0 : Int)).val) =
                                                                                      true))) ∧
    (decide
                                                                            ((E (anyF fun q => g (q + (0 : Nat)))).val =
                                                                              (E (0 : Int)).val) =
                                                                          false →
                                                                        E (anyF fun q => g (q + (0 : Nat))) =
                                                                            E
                                                                              (E
                                                                                  (anyF fun q =>
                                                                                    g (q + (0 : Nat)))).val ∧
    ((E (anyF fun q => f (q + (0 : Nat)))).lt
                                                                                L51 ∧
    (E (anyF fun q => g (q + (0 : Nat)))).lt
                                                                                L51) ∧
    E
                                                                                  ((E
                                                                                        (anyF fun q =>
                                                                                          f (q + (0 : Nat)))).val *
                                                                                    (E
                                                                                        (anyF fun q =>
                                                                                          g (q + (0 : Nat)))).val) =
                                                                                E
                                                                                  (E
                                                                                      ((E
                                                                                            (anyF fun q =>
                                                                                              f (q + (0 : Nat)))).val *
                                                                                        (E
                                                                                            (anyF fun q =>
                                                                                              g
                                                                                                (q +
                                                                                                  (0 :
                                                                                                    Nat)))).val)).val ∧
    ((!hasR
                                                                                          (E
                                                                                              (anyF fun q =>
                                                                                                f
                                                                                                  (q +
                                                                                                    (0 : Nat)))).val ==
                                                                                        hasR
                                                                                          (E
                                                                                              ((E
                                                                                                    (anyF fun q =>
                                                                                                      f
                                                                                                        (q +
                                                                                                          (0 :
                                                                                                            Nat)))).val +
                                                                                                (E
                                                                                                    (anyF fun q =>
                                                                                                      f
                                                                                                        (q +
                                                                                                          (0 :
                                                                                                            Nat)))).val)).val) =
                                                                                    true →
                                                                                  (hasR
                                                                                        (E
                                                                                            ((E
                                                                                                  (anyF fun q =>
                                                                                                    f
                                                                                                      (q +
                                                                                                        (0 :
                                                                                                          Nat)))).val *
                                                                                              (E
                                                                                                  (anyF fun q =>
                                                                                                    g
                                                                                                      (q +
                                                                                                        (0 :
                                                                                                          Nat)))).val)).val ==
                                                                                      (hasR
                                                                                          (E
                                                                                              (anyF fun q =>
                                                                                                f
                                                                                                  (q +
                                                                                                    (0 : Nat)))).val ==
                                                                                        hasR
                                                                                          (E
                                                                                              (anyF fun q =>
                                                                                                g
                                                                                                  (q +
                                                                                                    (0 : Nat)))).val)) =
                                                                                    true) ∧
    ((!hasR
                                                                                          (E
                                                                                              (anyF fun q =>
                                                                                                f
                                                                                                  (q +
                                                                                                    (0 : Nat)))).val ==
                                                                                        hasR
                                                                                          (E
                                                                                              ((E
                                                                                                    (anyF fun q =>
                                                                                                      f
                                                                                                        (q +
                                                                                                          (0 :
                                                                                                            Nat)))).val +
                                                                                                (E
                                                                                                    (anyF fun q =>
                                                                                                      f
                                                                                                        (q +
                                                                                                          (0 :
                                                                                                            Nat)))).val)).val) =
                                                                                    false →
                                                                                  false = true))))) ∧
    ((!hasR (E (anyF fun q => f (q + (0 : Nat)))).val) = false →
                                                      ((E (anyF fun q => f (q + (0 : Nat)))).lt L51 ∧
    (E (0 : Int)).lt L51) ∧
    (decide
                                                                ((E (anyF fun q => f (q + (0 : Nat)))).val =
                                                                  (E (0 : Int)).val) =
                                                              true →
                                                            ((E (anyF fun q => f (q + (0 : Nat)))).lt L51 ∧
    (E (0 : Int)).lt L51) ∧
    (hasR (E (anyF fun q => f (q + (0 : Nat)))).val = true →
                                                                  ((decide
                                                                            ((E (anyF fun q => f (q + (0 : Nat)))).val =
                                                                              (E (0 : Int)).val) ==
                                                                          hasR
                                                                            (E
                                                                                ((E
                                                                                      (anyF fun q =>
                                                                                        f (q + (0 : Nat)))).val +
                                                                                  (E
                                                                                      (anyF fun q =>
                                                                                        f (q + (0 : Nat)))).val)).val) =
                                                                        true →
                                                                      true = true) ∧
    ((decide
                                                                            ((E (anyF fun q => f (q + (0 : Nat)))).val =
                                                                              (E (0 : Int)).val) ==
                                                                          hasR
                                                                            (E
                                                                                ((E
                                                                                      (anyF fun q =>
                                                                                        f (q + (0 : Nat)))).val +
                                                                                  (E
                                                                                      (anyF fun q =>
                                                                                        f (q + (0 : Nat)))).val)).val) =
                                                                        false →
                                                                      ((E (anyF fun q => g (q + (0 : Nat)))).lt L51 ∧
    (E (0 : Int)).lt L51) ∧
    decide
                                                                            ((E (anyF fun q => g (q + (0 : Nat)))).val =
                                                                              (E (0 : Int)).val) =
                                                                          true)) ∧
    (hasR (E (anyF fun q => f (q + (0 : Nat)))).val =
                                                                    false →
                                                                  ((decide
                                                                            ((E (anyF fun q => f (q + (0 : Nat)))).val =
                                                                              (E (0 : Int)).val) ==
                                                                          false) =
                                                                        true →
                                                                      true = true) ∧
    ((decide
                                                                            ((E (anyF fun q => f (q + (0 : Nat)))).val =
                                                                              (E (0 : Int)).val) ==
                                                                          false) =
                                                                        false →
                                                                      ((E (anyF fun q => g (q + (0 : Nat)))).lt L51 ∧
    (E (0 : Int)).lt L51) ∧
    decide
                                                                            ((E (anyF fun q => g (q + (0 : Nat)))).val =
                                                                              (E (0 : Int)).val) =
                                                                          true))) ∧
    (decide
                                                                ((E (anyF fun q => f (q + (0 : Nat)))).val =
                                                                  (E (0 : Int)).val) =
                                                              false →
                                                            ((E (anyF fun q => g (q + (0 : Nat)))).lt L51 ∧
    (E (0 : Int)).lt L51) ∧
    (decide
                                                                      ((E (anyF fun q => g (q + (0 : Nat)))).val =
                                                                        (E (0 : Int)).val) =
                                                                    true →
                                                                  ((E (anyF fun q => f (q + (0 : Nat)))).lt L51 ∧
    (E (0 : Int)).lt L51) ∧
    (hasR (E (anyF fun q => f (q + (0 : Nat)))).val =
                                                                          true →
                                                                        ((decide
                                                                                  ((E
                                                                                        (anyF fun q =>
                                                                                          f (q + (0 : Nat)))).val =
                                                                                    (E (0 : Int)).val) ==
                                                                                hasR
                                                                                  (E
                                                                                      ((E
                                                                                            (anyF fun q =>
                                                                                              f (q + (0 : Nat)))).val +
                                                                                        (E
                                                                                            (anyF fun q =>
                                                                                              f
                                                                                                (q +
                                                                                                  (0 :
                                                                                                    Nat)))).val)).val) =
                                                                              true →
                                                                            true = true) ∧
    ((decide
                                                                                  ((E
                                                                                        (anyF fun q =>
                                                                                          f (q + (0 : Nat)))).val =
                                                                                    (E (0 : Int)).val) ==
                                                                                hasR
                                                                                  (E
                                                                                      ((E
                                                                                            (anyF fun q =>
                                                                                              f (q + (0 : Nat)))).val +
                                                                                        (E
                                                                                            (anyF fun q =>
                                                                                              f
                                                                                                (q +
                                                                                                  (0 :
                                                                                                    Nat)))).val)).val) =
                                                                              false →
                                                                            ((E (anyF fun q => g (q + (0 : Nat)))).lt
                                                                                  L51 ∧
    (E (0 : Int)).lt L51) ∧
    decide
                                                                                  ((E
                                                                                        (anyF fun q =>
                                                                                          g (q + (0 : Nat)))).val =
                                                                                    (E (0 : Int)).val) =
                                                                                true)) ∧
    (hasR (E (anyF fun q => f (q + (0 : Nat)))).val =
                                                                          false →
                                                                        ((decide
                                                                                  ((E
                                                                                        (anyF fun q =>
                                                                                          f (q + (0 : Nat)))).val =
                                                                                    (E (0 : Int)).val) ==
                                                                                false) =
                                                                              true →
                                                                            true = true) ∧
    ((decide
                                                                                  ((E
                                                                                        (anyF fun q =>
                                                                                          f (q + (0 : Nat)))).val =
                                                                                    (E (0 : Int)).val) ==
                                                                                false) =
                                                                              false →
                                                                            ((E (anyF fun q => g (q + (0 : Nat)))).lt
                                                                                  L51 ∧
    (E (0 : Int)).lt L51) ∧
    decide
                                                                                  ((E
                                                                                        (anyF fun q =>
                                                                                          g (q + (0 : Nat)))).val =
                                                                                    (E (0 : Int)).val) =
                                                                                true))) ∧
    (decide
                                                                      ((E (anyF fun q => g (q + (0 : Nat)))).val =
                                                                        (E (0 : Int)).val) =
                                                                    false →
                                                                  E (anyF fun q => g (q + (0 : Nat))) =
                                                                      E (E (anyF fun q => g (q + (0 : Nat)))).val ∧
    ((E (anyF fun q => f (q + (0 : Nat)))).lt L51 ∧
    (E (anyF fun q => g (q + (0 : Nat)))).lt L51) ∧
    E
                                                                            ((E (anyF fun q => f (q + (0 : Nat)))).val *
                                                                              (E
                                                                                  (anyF fun q =>
                                                                                    g (q + (0 : Nat)))).val) =
                                                                          E
                                                                            (E
                                                                                ((E
                                                                                      (anyF fun q =>
                                                                                        f (q + (0 : Nat)))).val *
                                                                                  (E
                                                                                      (anyF fun q =>
                                                                                        g (q + (0 : Nat)))).val)).val ∧
    ((!hasR
                                                                                    (E
                                                                                        (anyF fun q =>
                                                                                          f (q + (0 : Nat)))).val ==
                                                                                  hasR
                                                                                    (E
                                                                                        ((E
                                                                                              (anyF fun q =>
                                                                                                f
                                                                                                  (q +
                                                                                                    (0 : Nat)))).val +
                                                                                          (E
                                                                                              (anyF fun q =>
                                                                                                f
                                                                                                  (q +
                                                                                                    (0 :
                                                                                                      Nat)))).val)).val) =
                                                                              true →
                                                                            (hasR
                                                                                  (E
                                                                                      ((E
                                                                                            (anyF fun q =>
                                                                                              f (q + (0 : Nat)))).val *
                                                                                        (E
                                                                                            (anyF fun q =>
                                                                                              g
                                                                                                (q +
                                                                                                  (0 :
                                                                                                    Nat)))).val)).val ==
                                                                                (hasR
                                                                                    (E
                                                                                        (anyF fun q =>
                                                                                          f (q + (0 : Nat)))).val ==
                                                                                  hasR
                                                                                    (E
                                                                                        (anyF fun q =>
                                                                                          g (q + (0 : Nat)))).val)) =
                                                                              true) ∧
    ((!hasR
                                                                                    (E
                                                                                        (anyF fun q =>
                                                                                          f (q + (0 : Nat)))).val ==
                                                                                  hasR
                                                                                    (E
                                                                                        ((E
                                                                                              (anyF fun q =>
                                                                                                f
                                                                                                  (q +
                                                                                                    (0 : Nat)))).val +
                                                                                          (E
                                                                                              (anyF fun q =>
                                                                                                f
                                                                                                  (q +
                                                                                                    (0 :
                                                                                                      Nat)))).val)).val) =
                                                                              false →
                                                                            false = true)))))) ∧
    (hasR (E (anyF fun q => f (q + (0 : Nat)))).val = false →
                                          ((!hasR (E (anyF fun q => f (q + (0 : Nat)))).val) = true →
                                              ((E (rootV (E (anyF fun q => f (q + (0 : Nat)))).val)).lt L51 ∧
    (E (0 : Int)).lt L51) ∧
    ((!decide
                                                          ((E (rootV (E (anyF fun q => f (q + (0 : Nat)))).val)).val =
                                                            (E (0 : Int)).val)) =
                                                      true →
                                                    false = true) ∧
    ((!decide
                                                          ((E (rootV (E (anyF fun q => f (q + (0 : Nat)))).val)).val =
                                                            (E (0 : Int)).val)) =
                                                      false →
                                                    ((E (anyF fun q => f (q + (0 : Nat)))).lt L51 ∧
    (E (0 : Int)).lt L51) ∧
    (decide
                                                              ((E (anyF fun q => f (q + (0 : Nat)))).val =
                                                                (E (0 : Int)).val) =
                                                            true →
                                                          ((E (anyF fun q => f (q + (0 : Nat)))).lt L51 ∧
    (E (0 : Int)).lt L51) ∧
    (hasR (E (anyF fun q => f (q + (0 : Nat)))).val = true →
                                                                ((decide
                                                                          ((E (anyF fun q => f (q + (0 : Nat)))).val =
                                                                            (E (0 : Int)).val) ==
                                                                        hasR
                                                                          (E
                                                                              ((E
                                                                                    (anyF fun q =>
                                                                                      f (q + (0 : Nat)))).val +
                                                                                (E
                                                                                    (anyF fun q =>
                                                                                      f (q + (0 : Nat)))).val)).val) =
                                                                      true →
                                                                    true = true) ∧
    ((decide
                                                                          ((E (anyF fun q => f (q + (0 : Nat)))).val =
                                                                            (E (0 : Int)).val) ==
                                                                        hasR
                                                                          (E
                                                                              ((E
                                                                                    (anyF fun q =>
                                                                                      f (q + (0 : Nat)))).val +
                                                                                (E
                                                                                    (anyF fun q =>
                                                                                      f (q + (0 : Nat)))).val)).val) =
                                                                      false →
                                                                    ((E (anyF fun q => g (q + (0 : Nat)))).lt L51 ∧
    (E (0 : Int)).lt L51) ∧
    decide
                                                                          ((E (anyF fun q => g (q + (0 : Nat)))).val =
                                                                            (E (0 : Int)).val) =
                                                                        true)) ∧
    (hasR (E (anyF fun q => f (q + (0 : Nat)))).val = false →
                                                                ((decide
                                                                          ((E (anyF fun q => f (q + (0 : Nat)))).val =
                                                                            (E (0 : Int)).val) ==
                                                                        false) =
                                                                      true →
                                                                    true = true) ∧
    ((decide
                                                                          ((E (anyF fun q => f (q + (0 : Nat)))).val =
                                                                            (E (0 : Int)).val) ==
                                                                        false) =
                                                                      false →
                                                                    ((E (anyF fun q => g (q + (0 : Nat)))).lt L51 ∧
    (E (0 : Int)).lt L51) ∧
    decide
                                                                          ((E (anyF fun q => g (q + (0 : Nat)))).val =
                                                                            (E (0 : Int)).val) =
                                                                        true))) ∧
    (decide
                                                              ((E (anyF fun q => f (q + (0 : Nat)))).val =
                                                                (E (0 : Int)).val) =
                                                            false →
                                                          ((E (anyF fun q => g (q + (0 : Nat)))).lt L51 ∧
    (E (0 : Int)).lt L51) ∧
    (decide
                                                                    ((E (anyF fun q => g (q + (0 : Nat)))).val =
                                                                      (E (0 : Int)).val) =
                                                                  true →
                                                                ((E (anyF fun q => f (q + (0 : Nat)))).lt L51 ∧
    (E (0 : Int)).lt L51) ∧
    (hasR (E (anyF fun q => f (q + (0 : Nat)))).val =
                                                                        true →
                                                                      ((decide
                                                                                ((E
                                                                                      (anyF fun q =>
                                                                                        f (q + (0 : Nat)))).val =
                                                                                  (E (0 : Int)).val) ==
                                                                              hasR
                                                                                (E
                                                                                    ((E
                                                                                          (anyF fun q =>
                                                                                            f (q + (0 : Nat)))).val +
                                                                                      (E
                                                                                          (anyF fun q =>
                                                                                            f
                                                                                              (q +
                                                                                                (0 :
                                                                                                  Nat)))).val)).val) =
                                                                            true →
                                                                          true = true) ∧
    ((decide
                                                                                ((E
                                                                                      (anyF fun q =>
                                                                                        f (q + (0 : Nat)))).val =
                                                                                  (E (0 : Int)).val) ==
                                                                              hasR
                                                                                (E
                                                                                    ((E
                                                                                          (anyF fun q =>
                                                                                            f (q + (0 : Nat)))).val +
                                                                                      (E
                                                                                          (anyF fun q =>
                                                                                            f
                                                                                              (q +
                                                                                                (0 :
                                                                                                  Nat)))).val)).val) =
                                                                            false →
                                                                          ((E (anyF fun q => g (q + (0 : Nat)))).lt
                                                                                L51 ∧
    (E (0 : Int)).lt L51) ∧
    decide
                                                                                ((E
                                                                                      (anyF fun q =>
                                                                                        g (q + (0 : Nat)))).val =
                                                                                  (E (0 : Int)).val) =
                                                                              true)) ∧
    (hasR (E (anyF fun q => f (q + (0 : Nat)))).val =
                                                                        false →
                                                                      ((decide
                                                                                ((E
                                                                                      (anyF fun q =>
                                                                                        f (q + (0 : Nat)))).val =
                                                                                  (E (0 : Int)).val) ==
                                                                              false) =
                                                                            true →
                                                                          true = true) ∧
    ((decide
                                                                                ((E
                                                                                      (anyF fun q =>
                                                                                        f (q + (0 : Nat)))).val =
                                                                                  (E (0 : Int)).val) ==
                                                                              false) =
                                                                            false →
                                                                          ((E (anyF fun q => g (q + (0 : Nat)))).lt
                                                                                L51 ∧
    (E (0 : Int)).lt L51) ∧
    decide
                                                                                ((E
                                                                                      (anyF fun q =>
                                                                                        g (q + (0 : Nat)))).val =
                                                                                  (E (0 : Int)).val) =
                                                                              true))) ∧
    (decide
                                                                    ((E (anyF fun q => g (q + (0 : Nat)))).val =
                                                                      (E (0 : Int)).val) =
                                                                  false →
                                                                E (anyF fun q => g (q + (0 : Nat))) =
                                                                    E (E (anyF fun q => g (q + (0 : Nat)))).val ∧
    ((E (anyF fun q => f (q + (0 : Nat)))).lt L51 ∧
    (E (anyF fun q => g (q + (0 : Nat)))).lt L51) ∧
    E
                                                                          ((E (anyF fun q => f (q + (0 : Nat)))).val *
                                                                            (E (anyF fun q => g (q + (0 : Nat)))).val) =
                                                                        E
                                                                          (E
                                                                              ((E
                                                                                    (anyF fun q =>
                                                                                      f (q + (0 : Nat)))).val *
                                                                                (E
                                                                                    (anyF fun q =>
                                                                                      g (q + (0 : Nat)))).val)).val ∧
    ((!hasR
                                                                                  (E
                                                                                      (anyF fun q =>
                                                                                        f (q + (0 : Nat)))).val ==
                                                                                hasR
                                                                                  (E
                                                                                      ((E
                                                                                            (anyF fun q =>
                                                                                              f (q + (0 : Nat)))).val +
                                                                                        (E
                                                                                            (anyF fun q =>
                                                                                              f
                                                                                                (q +
                                                                                                  (0 :
                                                                                                    Nat)))).val)).val) =
                                                                            true →
                                                                          (hasR
                                                                                (E
                                                                                    ((E
                                                                                          (anyF fun q =>
                                                                                            f (q + (0 : Nat)))).val *
                                                                                      (E
                                                                                          (anyF fun q =>
                                                                                            g
                                                                                              (q +
                                                                                                (0 :
                                                                                                  Nat)))).val)).val ==
                                                                              (hasR
                                                                                  (E
                                                                                      (anyF fun q =>
                                                                                        f (q + (0 : Nat)))).val ==
                                                                                hasR
                                                                                  (E
                                                                                      (anyF fun q =>
                                                                                        g (q + (0 : Nat)))).val)) =
                                                                            true) ∧
    ((!hasR
                                                                                  (E
                                                                                      (anyF fun q =>
                                                                                        f (q + (0 : Nat)))).val ==
                                                                                hasR
                                                                                  (E
                                                                                      ((E
                                                                                            (anyF fun q =>
                                                                                              f (q + (0 : Nat)))).val +
                                                                                        (E
                                                                                            (anyF fun q =>
                                                                                              f
                                                                                                (q +
                                                                                                  (0 :
                                                                                                    Nat)))).val)).val) =
                                                                            false →
                                                                          false = true))))) ∧
    ((!hasR (E (anyF fun q => f (q + (0 : Nat)))).val) = false →
                                              ((E (anyF fun q => f (q + (0 : Nat)))).lt L51 ∧ (E (0 : Int)).lt L51) ∧
    (decide
                                                        ((E (anyF fun q => f (q + (0 : Nat)))).val =
                                                          (E (0 : Int)).val) =
                                                      true →
                                                    ((E (anyF fun q => f (q + (0 : Nat)))).lt L51 ∧
    (E (0 : Int)).lt L51) ∧
    (hasR (E (anyF fun q => f (q + (0 : Nat)))).val = true →
                                                          ((decide
                                                                    ((E (anyF fun q => f (q + (0 : Nat)))).val =
                                                                      (E (0 : Int)).val) ==
                                                                  hasR
                                                                    (E
                                                                        ((E (anyF fun q => f (q + (0 : Nat)))).val +
                                                                          (E
                                                                              (anyF fun q =>
                                                                                f (q + (0 : Nat)))).val)).val) =
                                                                true →
                                                              true = true) ∧
    ((decide
                                                                    ((E (anyF fun q => f (q + (0 : Nat)))).val =
                                                                      (E (0 : Int)).val) ==
                                                                  hasR
                                                                    (E
                                                                        ((E (anyF fun q => f (q + (0 : Nat)))).val +
                                                                          (E
                                                                              (anyF fun q =>
                                                                                f (q + (0 : Nat)))).val)).val) =
                                                                false →
                                                              ((E (anyF fun q => g (q + (0 : Nat)))).lt L51 ∧
    (E (0 : Int)).lt L51) ∧
    decide
                                                                    ((E (anyF fun q => g (q + (0 : Nat)))).val =
                                                                      (E (0 : Int)).val) =
                                                                  true)) ∧
    (hasR (E (anyF fun q => f (q + (0 : Nat)))).val = false →
                                                          ((decide
                                                                    ((E (anyF fun q => f (q + (0 : Nat)))).val =
                                                                      (E (0 : Int)).val) ==
                                                                  false) =
                                                                true →
                                                              true = true) ∧
    ((decide
                                                                    ((E (anyF fun q => f (q + (0 : Nat)))).val =
                                                                      (E (0 : Int)).val) ==
                                                                  false) =
                                                                false →
                                                              ((E (anyF fun q => g (q + (0 : Nat)))).lt L51 ∧
    (E (0 : Int)).lt L51) ∧
    decide
                                                                    ((E (anyF fun q => g (q + (0 : Nat)))).val =
                                                                      (E (0 : Int)).val) =
                                                                  true))) ∧
    (decide
                                                        ((E (anyF fun q => f (q + (0 : Nat)))).val =
                                                          (E (0 : Int)).val) =
                                                      false →
                                                    ((E (anyF fun q => g (q + (0 : Nat)))).lt L51 ∧
    (E (0 : Int)).lt L51) ∧
    (decide
                                                              ((E (anyF fun q => g (q + (0 : Nat)))).val =
                                                                (E (0 : Int)).val) =
                                                            true →
                                                          ((E (anyF fun q => f (q + (0 : Nat)))).lt L51 ∧
    (E (0 : Int)).lt L51) ∧
    (hasR (E (anyF fun q => f (q + (0 : Nat)))).val = true →
                                                                ((decide
                                                                          ((E (anyF fun q => f (q + (0 : Nat)))).val =
                                                                            (E (0 : Int)).val) ==
                                                                        hasR
                                                                          (E
                                                                              ((E
                                                                                    (anyF fun q =>
                                                                                      f (q + (0 : Nat)))).val +
                                                                                (E
                                                                                    (anyF fun q =>
                                                                                      f (q + (0 : Nat)))).val)).val) =
                                                                      true →
                                                                    true = true) ∧
    ((decide
                                                                          ((E (anyF fun q => f (q + (0 : Nat)))).val =
                                                                            (E (0 : Int)).val) ==
                                                                        hasR
                                                                          (E
                                                                              ((E
                                                                                    (anyF fun q =>
                                                                                      f (q + (0 : Nat)))).val +
                                                                                (E
                                                                                    (anyF fun q =>
                                                                                      f (q + (0 : Nat)))).val)).val) =
                                                                      false →
                                                                    ((E (anyF fun q => g (q + (0 : Nat)))).lt L51 ∧
    (E (0 : Int)).lt L51) ∧
    decide
                                                                          ((E (anyF fun q => g (q + (0 : Nat)))).val =
                                                                            (E (0 : Int)).val) =
                                                                        true)) ∧
    (hasR (E (anyF fun q => f (q + (0 : Nat)))).val = false →
                                                                ((decide
                                                                          ((E (anyF fun q => f (q + (0 : Nat)))).val =
                                                                            (E (0 : Int)).val) ==
                                                                        false) =
                                                                      true →
                                                                    true = true) ∧
    ((decide
                                                                          ((E (anyF fun q => f (q + (0 : Nat)))).val =
                                                                            (E (0 : Int)).val) ==
                                                                        false) =
                                                                      false →
                                                                    ((E (anyF fun q => g (q + (0 : Nat)))).lt L51 ∧
    (E (0 : Int)).lt L51) ∧
    decide
                                                                          ((E (anyF fun q => g (q + (0 : Nat)))).val =
                                                                            (E (0 : Int)).val) =
                                                                        true))) ∧
    (decide
                                                              ((E (anyF fun q => g (q + (0 : Nat)))).val =
                                                                (E (0 : Int)).val) =
                                                            false →
                                                          E (anyF fun q => g (q + (0 : Nat))) =
                                                              E (E (anyF fun q => g (q + (0 : Nat)))).val ∧
    ((E (anyF fun q => f (q + (0 : Nat)))).lt L51 ∧
    (E (anyF fun q => g (q + (0 : Nat)))).lt L51) ∧
    E
                                                                    ((E (anyF fun q => f (q + (0 : Nat)))).val *
                                                                      (E (anyF fun q => g (q + (0 : Nat)))).val) =
                                                                  E
                                                                    (E
                                                                        ((E (anyF fun q => f (q + (0 : Nat)))).val *
                                                                          (E
                                                                              (anyF fun q =>
                                                                                g (q + (0 : Nat)))).val)).val ∧
    ((!hasR (E (anyF fun q => f (q + (0 : Nat)))).val ==
                                                                          hasR
                                                                            (E
                                                                                ((E
                                                                                      (anyF fun q =>
                                                                                        f (q + (0 : Nat)))).val +
                                                                                  (E
                                                                                      (anyF fun q =>
                                                                                        f (q + (0 : Nat)))).val)).val) =
                                                                      true →
                                                                    (hasR
                                                                          (E
                                                                              ((E
                                                                                    (anyF fun q =>
                                                                                      f (q + (0 : Nat)))).val *
                                                                                (E
                                                                                    (anyF fun q =>
                                                                                      g (q + (0 : Nat)))).val)).val ==
                                                                        (hasR
                                                                            (E (anyF fun q => f (q + (0 : Nat)))).val ==
                                                                          hasR
                                                                            (E
                                                                                (anyF fun q =>
                                                                                  g (q + (0 : Nat)))).val)) =
                                                                      true) ∧
    ((!hasR (E (anyF fun q => f (q + (0 : Nat)))).val ==
                                                                          hasR
                                                                            (E
                                                                                ((E
                                                                                      (anyF fun q =>
                                                                                        f (q + (0 : Nat)))).val +
                                                                                  (E
                                                                                      (anyF fun q =>
                                                                                        f (q + (0 : Nat)))).val)).val) =
                                                                      false →
                                                                    false = true)))))))))) := by kernel_rfl
theorem pS7 {f g : Nat → Int} (hf : isB f) (hg : isB g) : PureOK Try.prog 7 [X32 f, X32 g] (.b true) := by
  refine pure_of_must2 mixed tlaw_ok (fn := Try.f7) (by kernel_rfl) (by kernel_rfl) rfl [19, 34, 43, 38, 50, 64, 75, 72, 81, 85, 89, 94, 98, 118] [40] [] told_none ⟨trivial, trivial, trivial⟩ ?_
  rw [v7]
  simp only [Nat.add_zero, ← canE]
  generalize anyF f = a
  generalize anyF g = b
  simp only [ltT, true_and, and_true, E_val, emL, emR, eaL, eaR, eeR, zero_mod, hasR_arg, rootV_arg, hasR_sq, rootV_even, enR]
  have k1 := root_of_sq a
  have k2 : hasR a = true → rootV a * rootV a % p = a % p := rootV_sq
  have k3 : hasR a = false → rootV a % p = 0 := fun h => by rw [rootV_none h]; rfl
  have k4 : a % p = 0 → hasR a = true ∧ hasR (a + a) = true := fun h => ⟨(hasR_zero h).1, (hasR_zero (by rw [← eaL, ← eaR, h]; rfl)).1⟩
  have k5 : a % p ≠ 0 → hasR (a + a) = !hasR a := hasR_twice
  have k6 : a % p ≠ 0 → b % p ≠ 0 → hasR (a * b) = (hasR a == hasR b) := hasR_mul
  refine ⟨by simp, fun _ => ⟨by decide, hf, by decide, hg, by decide, ?_⟩⟩
  by_cases hz : a % p = 0
  · obtain ⟨h1, h2⟩ := k4 hz
    have h3 := k2 h1
    simp [hz, h1, h2, h3] at k1 ⊢
    exact fun h => k1.resolve_left h
  · have h2 := k5 hz
    by_cases hb : b % p = 0
    · cases h1 : hasR a <;> simp_all <;> exact fun h => k1.resolve_left h
    · have h4 := k6 hz hb
      cases h1 : hasR a <;> cases h5 : hasR b <;> simp_all <;> exact fun h => k1.resolve_left h
end Go.Fc
