/- Numbers modulo p: the law of reading. -/
import Derived.Test.YtbfmneknabhlcaaRfE
set_option linter.unusedVariables false
set_option linter.unusedSimpArgs false
set_option maxRecDepth 100000
open Go Go.Sx Go.Fld Go.Fc Go.Proofs Go.Dg
namespace Go.Rf
theorem v3 (s : List UInt8) (n : Int) : must (evalVal (envL Try.prog TRead Try.f3.ntmps [22, 29, 36, 45, 54] 0 [30] []) Try.f3 [.str s, .i .u32 n]) =
    (((0 : Nat) = (0 : Nat)) ∧
    ((isEl s == isEl s) = true) ∧
    ((E (if isEl s = true then leI s else (0 : Int))).lt L51) ∧
    ((0 : Nat) + 16 ≤ 16) ∧
    (isD fun q => dig (65536 : Int) (if isEl s = true then leI s else (0 : Int)) (q + (0 : Nat))) ∧
    ((txt (E (if isEl s = true then leI s else (0 : Int))).val ==
    txt (V fun q => dig (65536 : Int) (if isEl s = true then leI s else (0 : Int)) (q + (0 : Nat)))) =
  true) ∧
    ((E (if isEl s = true then leI s else (0 : Int))).lt L51) ∧
    ((0 : Nat) + 16 ≤ 16) ∧
    (isD fun q => dig (65536 : Int) (if isEl s = true then leI s else (0 : Int)) (q + (0 : Nat))) ∧
    ((decide ((E (if isEl s = true then leI s else (0 : Int))).val % (2 : Int) = (1 : Int)) ==
    decide
      ((V fun q => dig (65536 : Int) (if isEl s = true then leI s else (0 : Int)) (q + (0 : Nat))) % (2 : Int) =
        (1 : Int))) =
  true) ∧
    ((0 : Int) ≤ n ∧ n < (4294967296 : Int)) ∧
    ((E n).lt L51) ∧
    ((0 : Int) ≤ n ∧ n < (4294967296 : Int)) ∧
    (isD (dig (65536 : Int) n)) ∧
    ((txt (E n).val == txt (V (dig (65536 : Int) n))) = true) ∧
    ((0 : Int) ≤ n ∧ n < (4294967296 : Int)) ∧
    ((E n).lt L51) ∧
    ((decide ((E n).val % (2 : Int) = (1 : Int)) == (n.tmod (2 : Int) == (1 : Int))) = true) ∧
    (true = true)) := by kernel_rfl
theorem p_lt : p < 65536 ^ 16 := by decide +kernel
theorem V_lt {n : Int} (h0 : 0 ≤ n) (h1 : n < p) : V (dig 65536 n) = n := by
  have := p_lt
  rw [V_dig, Int.emod_eq_of_lt h0 (by omega)]
theorem pS3 {s : List UInt8} {n : Int} (h0 : 0 ≤ n) (h1 : n < 4294967296) : PureOK Try.prog 3 [.str s, .i .u32 n] (.b true) := by
  refine pure_of_must mixed tread_ok (fn := Try.f3) (by kernel_rfl) (by kernel_rfl) rfl [22, 29, 36, 45, 54] [30] [] told_none ⟨trivial, trivial, trivial⟩ ?_
  rw [v3]
  have hm : 0 ≤ (if isEl s = true then leI s else (0 : Int)) ∧ (if isEl s = true then leI s else (0 : Int)) < p := by
    split
    · rename_i h
      simp only [isEl, Bool.and_eq_true, decide_eq_true_eq] at h
      exact ⟨(leI_range s).1, h.2⟩
    · exact ⟨by omega, by decide⟩
  generalize (if isEl s = true then leI s else (0 : Int)) = m at *
  have hn : n < p := by unfold p; omega
  have e1 := V_lt hm.1 hm.2
  have e2 := V_lt h0 hn
  have d1 := isD_dig m
  have d2 := isD_dig n
  have t1 : n.tmod 2 = n % 2 := Int.tmod_eq_emod_of_nonneg h0
  simp only [Nat.add_zero, ltT, E_val, Int.emod_eq_of_lt hm.1 hm.2, Int.emod_eq_of_lt h0 hn, e1, e2, d1, d2, beq_self_eq_true, true_and, and_true, h0, h1, t1]
  refine ⟨by decide, by decide, ?_⟩
  rw [beq_iff_eq, Bool.eq_iff_iff]; simp only [decide_eq_true_eq, beq_iff_eq]
theorem pS3' (s : List UInt8) {c : Int} (hc : 0 ≤ c ∧ c < 4294967296) : PureOK Try.prog 3 [.str s, .i .u32 c] (.b true) := pS3 hc.1 hc.2
end Go.Rf
