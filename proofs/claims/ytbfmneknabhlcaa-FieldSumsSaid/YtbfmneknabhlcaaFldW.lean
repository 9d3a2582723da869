/- Numbers modulo p: 'works'. -/
import Derived.Test.YtbfmneknabhlcaaFldR2
set_option linter.unusedVariables false
set_option linter.unusedSimpArgs false
set_option maxRecDepth 100000
open Go Go.Sx Go.Fld Go.Proofs Go.Dg
namespace Go.Fc
theorem canE (n : Int) : E n = E (E n).val := by
  refine E_congr ?_
  rw [E_val, Int.emod_emod_of_dvd n (Int.dvd_refl p)]
theorem v19  : must (evalVal (env Try.prog TW Try.f19.ntmps [22, 21, 24, 29, 33, 41]) Try.f19 []) =
    (((0 : Int) ≤ (4 : Int) ∧ (4 : Int) < (4294967296 : Int)) ∧
    (E (4 : Int) = E (E (4 : Int)).val) ∧
    ((0 : Int) ≤ (2 : Int) ∧ (2 : Int) < (4294967296 : Int)) ∧
    (E (2 : Int) = E (E (2 : Int)).val) ∧
    ((0 : Int) ≤ (5 : Int) ∧ (5 : Int) < (4294967296 : Int)) ∧
    ((E (5 : Int)).lt L51) ∧
    ((txt (E (5 : Int)).val ==
    (ByteArray.mk #[(5 : UInt8)]).data.toList ++
      [UInt8.ofNat (Int.toNat (0 : Int)), UInt8.ofNat (Int.toNat (0 : Int)), UInt8.ofNat (Int.toNat (0 : Int)),
        UInt8.ofNat (Int.toNat (0 : Int)), UInt8.ofNat (Int.toNat (0 : Int)), UInt8.ofNat (Int.toNat (0 : Int)),
        UInt8.ofNat (Int.toNat (0 : Int)), UInt8.ofNat (Int.toNat (0 : Int)), UInt8.ofNat (Int.toNat (0 : Int)),
        UInt8.ofNat (Int.toNat (0 : Int)), UInt8.ofNat (Int.toNat (0 : Int)), UInt8.ofNat (Int.toNat (0 : Int)),
        UInt8.ofNat (Int.toNat (0 : Int)), UInt8.ofNat (Int.toNat (0 : Int)), UInt8.ofNat (Int.toNat (0 : Int)),
        UInt8.ofNat (Int.toNat (0 : Int)), UInt8.ofNat (Int.toNat (0 : Int)), UInt8.ofNat (Int.toNat (0 : Int)),
        UInt8.ofNat (Int.toNat (0 : Int)), UInt8.ofNat (Int.toNat (0 : Int)), UInt8.ofNat (Int.toNat (0 : Int)),
        UInt8.ofNat (Int.toNat (0 : Int)), UInt8.ofNat (Int.toNat (0 : Int)), UInt8.ofNat (Int.toNat (0 : Int)),
        UInt8.ofNat (Int.toNat (0 : Int)), UInt8.ofNat (Int.toNat (0 : Int)), UInt8.ofNat (Int.toNat (0 : Int)),
        UInt8.ofNat (Int.toNat (0 : Int)), UInt8.ofNat (Int.toNat (0 : Int)), UInt8.ofNat (Int.toNat (0 : Int)),
        UInt8.ofNat (Int.toNat (0 : Int))]) =
  true) ∧
    (hasR (E (4 : Int)).val = true) ∧
    ((0 : Int) ≤ (2 : Int) ∧ (2 : Int) < (4294967296 : Int)) ∧
    ((E (rootV (E (4 : Int)).val)).lt L51 ∧ (E (2 : Int)).lt L51) ∧
    (decide ((E (rootV (E (4 : Int)).val)).val = (E (2 : Int)).val) = true) ∧
    ((!hasR (E (2 : Int)).val) = true) ∧
    ((0 : Int) ≤ (2 : Int) ∧ (2 : Int) < (4294967296 : Int)) ∧
    (E (2 : Int) = E (E (2 : Int)).val) ∧
    ((0 : Int) ≤ (2 : Int) ∧ (2 : Int) < (4294967296 : Int)) ∧
    ((E (pw (E (2 : Int)).val (pN - (2 : Nat)))).lt L51 ∧ (E (2 : Int)).lt L51) ∧
    ((0 : Int) ≤ (1 : Int) ∧ (1 : Int) < (4294967296 : Int)) ∧
    ((E ((E (pw (E (2 : Int)).val (pN - (2 : Nat)))).val * (E (2 : Int)).val)).lt L51 ∧ (E (1 : Int)).lt L51) ∧
    (decide ((E ((E (pw (E (2 : Int)).val (pN - (2 : Nat)))).val * (E (2 : Int)).val)).val = (E (1 : Int)).val) = true) ∧
    ((0 : Int) ≤ (1 : Int) ∧ (1 : Int) < (4294967296 : Int)) ∧
    ((0 : Int) ≤ (2 : Int) ∧ (2 : Int) < (4294967296 : Int)) ∧
    ((E (1 : Int)).lt L51 ∧ (E (2 : Int)).lt L51) ∧
    ((!decide ((E (1 : Int)).val = (E (2 : Int)).val)) = true)) := by kernel_rfl
theorem p19 : PureOK Try.prog 19 [] (.b true) := by
  refine pure_of_env mixed tw_ok (fn := Try.f19) (by kernel_rfl) (by kernel_rfl) rfl [22, 21, 24, 29, 33, 41] trivial trivial ?_
  apply must_holds
  rw [v19]
  and_intros
  all_goals first | exact E_lt _ | exact canE _ | decide +kernel
end Go.Fc
