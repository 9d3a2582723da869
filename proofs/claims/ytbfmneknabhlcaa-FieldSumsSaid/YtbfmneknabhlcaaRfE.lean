/- Numbers modulo p, the document's answer: from bytes: the contract; the law of reading's table. -/
import Derived.Test.YtbfmneknabhlcaaRfD
import Derived.Test.YtbfmneknabhlcaaFldD
set_option linter.unusedVariables false
open Go Go.Sx Go.Fld Go.Fc Go.Proofs Go.Dg
namespace Go.Rf
theorem tup_congr {P : Program} {f m : Nat} {vs : List AV} {k : IntKind} {g g' : Nat → Int} {b : Bool} (h : PureOK P f vs (.t [.rows [.int k g] m, .b b])) (hg : ∀ q, q < m → g q = g' q) :
    PureOK P f vs (.t [.rows [.int k g'] m, .b b]) :=
  h.conc_congr ⟨trivial, trivial, trivial⟩ fun ρ => by
    have := conc_rows_congr (k := k) hg ρ
    simp only [conc, concL] at this ⊢
    rw [this]
theorem zero_dig : ∀ q, q < 16 → zeroF q = dig 65536 0 q := by decide +kernel
theorem p12 (s : List UInt8) : PureOK Try.prog 12 [.str s] (ofR s) := by
  have hW : p < 65536 ^ 16 := by decide +kernel
  have main : (isEl s = true → PureOK Try.prog 12 [.str s] (.t [.rows [.int .u32 (ofD s 16 fun _ => 0)] 16, .b true])) ∧ (isEl s = false → PureOK Try.prog 12 [.str s] (.t [.rows [.int .u32 zeroF] 16, .b false])) := by
    refine ⟨fun he => ?_, fun he => ?_⟩
    · simp only [isEl, Bool.and_eq_true, decide_eq_true_eq] at he
      refine pure_of_envL mixed (t := T39) t39_ok (fn := Try.f12) (by kernel_rfl) (by kernel_rfl) rfl [8, 11, 18, 24, 28, 32] RG [L12] (told_one (by kernel_rfl) loop12) ⟨trivial, trivial⟩ ⟨trivial, trivial, trivial⟩ ?_
      rw [val12, V_of, show V (dig 65536 p) = p from V_p]
      refine ⟨fun h => ?_, fun _ => ⟨⟨rfl, he.1⟩, by omega, ⟨isD_of _ _, isD_dig _⟩, fun h => ?_, fun _ => ⟨by omega, rfl, rfl⟩⟩⟩
      · have := he.1
        simp only [bne_iff_ne, ne_eq] at h; exact absurd (by omega) h
      · have := he.2
        simp only [Bool.not_eq_true', decide_eq_false_iff_not] at h; exact absurd this h
    · refine pure_of_envL mixed (t := T39) t39_ok (fn := Try.f12) (by kernel_rfl) (by kernel_rfl) rfl [8, 11, 18, 24, 28, 32] RG [L12] (told_one (by kernel_rfl) loop12) ⟨trivial, trivial⟩ ⟨trivial, trivial, trivial⟩ ?_
      rw [val12, V_of, show V (dig 65536 p) = p from V_p]
      refine ⟨fun h => ⟨rfl, rfl⟩, fun h => ?_⟩
      have hl : s.length = 32 := by
        have : ((s.length : Int) = 32) := by simpa using h
        omega
      refine ⟨⟨rfl, hl⟩, by omega, ⟨isD_of _ _, isD_dig _⟩, fun h => ⟨rfl, rfl⟩, fun h => ?_⟩
      have h2 : leI s < p := by simpa using h
      exfalso
      simp [isEl, hl, h2] at he
  cases he : isEl s with
  | true =>
    have := tup_congr (main.1 he) (g' := dig 65536 (leI s)) fun q hq => by
      have := dig_V (isD_of s fun _ => 0) hq
      rw [this, V_of]
    unfold ofR; rw [he]; exact this
  | false =>
    have := tup_congr (main.2 he) zero_dig
    unfold ofR; rw [he]; exact this
def e12 : Entry := fun vs => match vs with
  | [.str s] => some (.ret (ofR s))
  | _ => none
theorem e12_ok : EntryOK Try.prog (12, e12) := fun vs r h => by
  dsimp only [e12] at h
  split at h
  · cases h; exact .inl ⟨_, rfl, p12 _⟩
  · exact nomatch h
def e14 : Entry := fun vs => match vs with
  | [.rows [.int .u32 f] 16] => some (.req (isD f) (.ret (.str (txt (V f)))))
  | _ => none
theorem e14_ok : EntryOK Try.prog (14, e14) := fun vs r h => by
  dsimp only [e14] at h
  split at h
  · cases h; exact .inr ⟨_, _, rfl, fun h => p14 h⟩
  · exact nomatch h
def e16 : Entry := fun vs => match vs with
  | [.rows [.int .u32 f] 16] => some (.req (isD f) (.ret (.b (decide (V f % 2 = 1)))))
  | _ => none
theorem e16_ok : EntryOK Try.prog (16, e16) := fun vs r h => by
  dsimp only [e16] at h
  split at h
  · cases h; exact .inr ⟨_, _, rfl, fun h => p16 h⟩
  · exact nomatch h
def e18 : Entry := fun vs => match vs with
  | [.v (.int .u32 n)] => some (.req (0 ≤ n ∧ n < 4294967296) (.ret (D n)))
  | _ => none
theorem e18_ok : EntryOK Try.prog (18, e18) := fun vs r h => by
  dsimp only [e18] at h
  split at h
  · cases h; exact .inr ⟨_, _, rfl, fun h => p18 h.1 h.2⟩
  · exact nomatch h
abbrev TRead : Tab := (12, e12) :: (14, e14) :: (16, e16) :: (18, e18) :: TLaw
theorem tread_ok : ∀ x ∈ TRead, EntryOK Try.prog x := all_cons e12_ok (all_cons e14_ok (all_cons e16_ok (all_cons e18_ok tlaw_ok)))
end Go.Rf
