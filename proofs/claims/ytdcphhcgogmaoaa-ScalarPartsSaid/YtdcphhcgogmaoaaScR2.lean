/- Scalars, the document's answer: more. -/
import Derived.Test.YtdcphhcgogmaoaaScR
set_option linter.unusedVariables false
open Go Go.Sx Go.Proofs Go.Dg
namespace Go.Sc

/-! ### below -/
def belowT (f g : Nat → Int) : Nat → R AV
  | 0 => .ret (.b false)
  | n + 1 => .req (n < 36) (.req (n < 36) (.br (f n != g n) (.req (n < 36) (.req (n < 36) (.ret (.b (decide (f n < g n)))))) (belowT f g n)))
theorem val35 (f g : Nat → Int) : evalVal (envL Try.prog [] Try.f35.ntmps [16] 0 RT []) Try.f35 [.rows [.int .i64 f] 36, .rows [.int .i64 g] 36] = belowT f g 36 := by kernel_rfl
theorem belowT_holds {f g : Nat → Int} (hf : isD f) (hg : isD g) : ∀ n, n ≤ 36 → (belowT f g n).holds (· = .b (decide (sm 256 f n < sm 256 g n)))
  | 0, _ => by simp [belowT, R.holds, sm]
  | n + 1, hn => by
    have ih := belowT_holds hf hg n (by omega)
    obtain ⟨d1, d2⟩ := hf n (by omega)
    obtain ⟨d3, d4⟩ := hg n (by omega)
    obtain ⟨a1, a2⟩ := sm_lt (b := 256) (t := f) (by omega) (m := n) (fun q hq => hf q (by omega))
    obtain ⟨a3, a4⟩ := sm_lt (b := 256) (t := g) (by omega) (m := n) (fun q hq => hg q (by omega))
    have hp := pw (b := 256) (by omega) n
    refine ⟨by omega, by omega, fun h => ⟨by omega, by omega, ?_⟩, fun h => ?_⟩
    · simp only [bne_iff_ne, ne_eq] at h
      have : (f n < g n) ↔ (sm 256 f (n + 1) < sm 256 g (n + 1)) := by
        simp only [sm]
        constructor
        · intro hlt
          have : f n * 256 ^ n + 256 ^ n ≤ g n * 256 ^ n := by
            have := Int.mul_le_mul_of_nonneg_right (show f n + 1 ≤ g n by omega) (Int.le_of_lt hp)
            rw [Int.add_mul, Int.one_mul] at this; exact this
          omega
        · intro hlt
          by_cases h1 : f n < g n
          · exact h1
          · have : g n * 256 ^ n + 256 ^ n ≤ f n * 256 ^ n := by
              have := Int.mul_le_mul_of_nonneg_right (show g n + 1 ≤ f n by omega) (Int.le_of_lt hp)
              rw [Int.add_mul, Int.one_mul] at this; exact this
            omega
      simp only [R.holds, this]
    · have he : f n = g n := by simpa using h
      have : (sm 256 f (n + 1) < sm 256 g (n + 1)) ↔ (sm 256 f n < sm 256 g n) := by
        simp only [sm, he]; omega
      simp only [this]
      exact ih
theorem p35 {f g : Nat → Int} (hf : isD f) (hg : isD g) : PureOK Try.prog 35 [.rows [.int .i64 f] 36, .rows [.int .i64 g] 36] (.b (decide (V f < V g))) := by
  refine pure_of_envL mixed (t := []) (fun x h => nomatch h) (fn := Try.f35) (by kernel_rfl) (by kernel_rfl) rfl [16] RT [] told_none ⟨trivial, trivial, trivial⟩ trivial ?_
  rw [val35]
  exact belowT_holds hf hg 36 (by omega)

/-! ### order -/
def order : Int := 7237005577332262213973186563042994240857116359379907606001950938285454250989
def orderL : List AV := ([237, 211, 245, 92, 26, 99, 18, 88, 214, 156, 247, 162, 222, 249, 222, 20, 0, 0, 0, 0, 0, 0, 0, 0, 0, 0, 0, 0, 0, 0, 0, 16, 0, 0, 0, 0] : List Int).map fun n => .i .i64 n
theorem val33 : evalVal (envL Try.prog [] Try.f33.ntmps [] 0 RT []) Try.f33 [] = .req (0 = 0) (.ret (.rows [.int .i64 (nthI orderL)] 36)) := by kernel_rfl
theorem order_dig : ∀ q, q < 36 → nthI orderL q = dig 256 order q := by decide +kernel
theorem p33 : PureOK Try.prog 33 [] (D order) := by
  refine PureOK.rows_congr (g := nthI orderL) ?_ order_dig
  refine pure_of_envL mixed (t := []) (fun x h => nomatch h) (fn := Try.f33) (by kernel_rfl) (by kernel_rfl) rfl [] RT [] told_none trivial trivial ?_
  rw [val33]
  exact ⟨rfl, rfl⟩
end Go.Sc
