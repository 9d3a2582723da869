/- Numbers modulo p, the document's answer: differences; the tables of the laws. -/
import Derived.Test.YtbfmneknabhlcaaRfG
import Derived.Test.YtbfmneknabhlcaaRfF
set_option linter.unusedVariables false
open Go Go.Sx Go.Fld Go.Fc Go.Proofs Go.Dg
namespace Go.Rf
def e21 : Entry := fun vs => match vs with
  | [.rows [.int .u8 f] 32] => some (.req (isB f) (.ret (D (anyF f % p))))
  | _ => none
theorem e21_ok : EntryOK Try.prog (21, e21) := fun vs r h => by
  dsimp only [e21] at h
  split at h
  · cases h; exact .inr ⟨_, _, rfl, fun h => p21 h⟩
  · exact nomatch h
def e30 : Entry := fun vs => match vs with
  | [.rows [.int .u32 f] 16, .rows [.int .u32 g] 16] => some (.req (isD f ∧ isD g) (.ret (D ((V f + V g) % p))))
  | _ => none
theorem e30_ok : EntryOK Try.prog (30, e30) := fun vs r h => by
  dsimp only [e30] at h
  split at h
  · cases h; exact .inr ⟨_, _, rfl, fun h => p30 h.1 h.2⟩
  · exact nomatch h
def e33 : Entry := fun vs => match vs with
  | [.rows [.int .u32 f] 16, .rows [.int .u32 g] 16] => some (.req (isD f ∧ isD g) (.ret (D (V f * V g % p))))
  | _ => none
theorem e33_ok : EntryOK Try.prog (33, e33) := fun vs r h => by
  dsimp only [e33] at h
  split at h
  · cases h; exact .inr ⟨_, _, rfl, fun h => p33 h.1 h.2⟩
  · exact nomatch h
def e34 : Entry := fun vs => match vs with
  | [.rows [.int .u32 f] 16] => some (.req (isD f ∧ V f < p) (.ret (D ((-V f) % p))))
  | _ => none
theorem e34_ok : EntryOK Try.prog (34, e34) := fun vs r h => by
  dsimp only [e34] at h
  split at h
  · cases h; exact .inr ⟨_, _, rfl, fun h => p34 h.1 h.2⟩
  · exact nomatch h
abbrev T32 : Tab := [(30, e30), (34, e34)]
theorem t32_ok : ∀ x ∈ T32, EntryOK Try.prog x := all_cons e30_ok (all_cons e34_ok all_nil)
theorem val32 (f g : Nat → Int) : evalVal (envL Try.prog T32 Try.f32.ntmps [] 0 RG []) Try.f32 [.rows [.int .u32 f] 16, .rows [.int .u32 g] 16] =
    .req (0 + 16 ≤ 16) (.req (0 + 16 ≤ 16) (.req (isD g ∧ V g < p) (.req (isD f ∧ isD (dig 65536 ((-V g) % p))) (.req (0 = 0) (.ret (.rows [.int .u32 (dig 65536 ((V f + V (dig 65536 ((-V g) % p))) % p))] 16)))))) := by kernel_rfl
theorem mod_p (n : Int) : 0 ≤ n % p ∧ n % p < p := ⟨Int.emod_nonneg _ (by decide), Int.emod_lt_of_pos _ (by decide)⟩
theorem p32 {f g : Nat → Int} (hf : isD f) (hg : isD g) (hp : V g < p) : PureOK Try.prog 32 [.rows [.int .u32 f] 16, .rows [.int .u32 g] 16] (D ((V f - V g) % p)) := by
  refine pure_of_envL mixed (t := T32) t32_ok (fn := Try.f32) (by kernel_rfl) (by kernel_rfl) rfl [] RG [] told_none ⟨trivial, trivial, trivial⟩ trivial ?_
  rw [val32, V_lt (mod_p _).1 (mod_p _).2, show (V f + (-V g) % p) % p = (V f - V g) % p by unfold p; omega]
  exact ⟨by omega, by omega, ⟨hg, hp⟩, ⟨hf, isD_dig _⟩, rfl, rfl⟩
def e32 : Entry := fun vs => match vs with
  | [.rows [.int .u32 f] 16, .rows [.int .u32 g] 16] => some (.req (isD f ∧ isD g ∧ V g < p) (.ret (D ((V f - V g) % p))))
  | _ => none
theorem e32_ok : EntryOK Try.prog (32, e32) := fun vs r h => by
  dsimp only [e32] at h
  split at h
  · cases h; exact .inr ⟨_, _, rfl, fun h => p32 h.1 h.2.1 h.2.2⟩
  · exact nomatch h
abbrev TRing : Tab := (21, e21) :: (30, e30) :: (32, e32) :: (33, e33) :: (34, e34) :: TRead
theorem tring_ok : ∀ x ∈ TRing, EntryOK Try.prog x := all_cons e21_ok (all_cons e30_ok (all_cons e32_ok (all_cons e33_ok (all_cons e34_ok tread_ok))))
end Go.Rf
