/- Scalars, the document's answer: checked, clamped. -/
import Derived.Test.YtdcphhcgogmaoaaScU
set_option linter.unusedVariables false
open Go Go.Sx Go.Proofs Go.Dg
namespace Go.Sc
abbrev T20 : Tab := [(19, e19)]
theorem t20_ok : ∀ x ∈ T20, EntryOK Try.prog x := by
  intro x hx
  simp only [List.mem_cons, List.not_mem_nil, or_false] at hx
  subst hx
  exact e19_ok
def check (s : List UInt8) : Bool := decide (s.length = 32) && (txt (num s) == s)
theorem val20 (s : List UInt8) : evalVal (envL Try.prog T20 Try.f20.ntmps [6] 0 RT []) Try.f20 [.str s] = .br ((s.length : Int) == 32) (.ret (.b (txt (num s) == s))) (.ret (.b false)) := by kernel_rfl
theorem p20 (s : List UInt8) : PureOK Try.prog 20 [.str s] (.b (check s)) := by
  refine pure_of_envL mixed (t := T20) t20_ok (fn := Try.f20) (by kernel_rfl) (by kernel_rfl) rfl [6] RT [] told_none ⟨trivial, trivial⟩ trivial ?_
  rw [val20]
  refine ⟨fun h => ?_, fun h => ?_⟩
  · have : s.length = 32 := by simp only [beq_iff_eq] at h; omega
    simp [R.holds, check, this]
  · have : ¬ s.length = 32 := by intro e; simp [e] at h
    simp [R.holds, check, this]
def clampMid (s : List UInt8) : List UInt8 := ([UInt8.ofNat (IntKind.u8.wrap (IntKind.u8.wrap (((s.getD 0 0).toNat : Int).tdiv 8) * 8)).toNat] ++ (s.take 31).drop 1) ++ [UInt8.ofNat (IntKind.u8.wrap (((s.getD 31 0).toNat : Int).tmod 64 + 64)).toNat]
def clamp (s : List UInt8) : List UInt8 := if s.length = 32 then clampMid s else []
theorem val22 (s : List UInt8) : evalVal (envL Try.prog [] Try.f22.ntmps [5,7,13,14,16,21] 0 RT []) Try.f22 [.str s] =
    .br ((s.length : Int) != 32) (.ret (.str [])) (.req (0 ≤ (0 : Int) ∧ 0 < (s.length : Int)) (.req (0 ≤ (31 : Int) ∧ 31 ≤ (s.length : Int)) (.req (0 ≤ (1 : Int) ∧ (1 : Int) ≤ (31 : Nat))
      (.req (1 + ((s.take 31).drop 1).length ≤ 9223372036854775807) (.req (0 ≤ (31 : Int) ∧ 31 < (s.length : Int))
        (.req (([UInt8.ofNat (IntKind.u8.wrap (IntKind.u8.wrap (((s.getD 0 0).toNat : Int).tdiv 8) * 8)).toNat] ++ (s.take 31).drop 1).length + 1 ≤ 9223372036854775807) (.ret (.str (clampMid s))))))))) := by kernel_rfl
theorem p22 (s : List UInt8) : PureOK Try.prog 22 [.str s] (.str (clamp s)) := by
  refine pure_of_envL mixed (t := []) (fun x h => nomatch h) (fn := Try.f22) (by kernel_rfl) (by kernel_rfl) rfl [5,7,13,14,16,21] RT [] told_none ⟨trivial, trivial⟩ trivial ?_
  rw [val22]
  refine ⟨fun h => ?_, fun h => ?_⟩
  · have : ¬ s.length = 32 := by intro e; simp [e] at h
    simp [R.holds, clamp, this]
  · have hl : s.length = 32 := by simp only [bne_eq_false_iff_eq] at h; omega
    refine ⟨by omega, by omega, by omega, ?_, by omega, ?_, ?_⟩
    · simp [hl]
    · simp [hl]
    · simp [R.holds, clamp, hl]
end Go.Sc
