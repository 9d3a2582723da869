/- Numbers modulo p, the document's answer: reading, drawing, sums: the loops' shapes. -/
import Derived.Test.YtbfmneknabhlcaaRfC
set_option linter.unusedVariables false
open Go Go.Sx Go.Fld Go.Fc Go.Proofs Go.Dg
namespace Go.Rf
abbrev RG2 : List Nat := [30, 40, 62, 73]
def e39 : Entry := fun vs => match vs with
  | [.rows [.int .u64 f] 16] => some (.req (isU f) (.ret (D (V f % p))))
  | _ => none
theorem e39_ok : EntryOK Try.prog (39, e39) := fun vs r h => by
  dsimp only [e39] at h
  split at h
  · cases h; exact .inr ⟨_, _, rfl, fun h => p39 h⟩
  · exact nomatch h
abbrev T21 : Tab := [(39, e39)]
theorem t21_ok : ∀ x ∈ T21, EntryOK Try.prog x := by
  intro x hx
  simp only [List.mem_cons, List.not_mem_nil, or_false] at hx
  subst hx; exact e39_ok
def C12 : Cut := ⟨[0, 2, 4, 5], [([2], 0), ([4], 1)], 8⟩
def view12 (s : List UInt8) (i : Int) (r o : Nat → Int) : View := ([.str s, .p 0 0 0, .p 1 0 0, .i .i64 i], [(0, rw r), (1, rw o)])
abbrev r8 (f : Nat → Int) : AObj := .rows [.int .u8 f] 32 false
def C21 : Cut := ⟨[1, 2, 3, 4], [([1], 0), ([2], 1), ([3], 2)], 8⟩
def view21 (i : Int) (f r o : Nat → Int) : View := ([.p 0 0 0, .p 1 0 0, .p 2 0 0, .i .i64 i], [(0, r8 f), (1, rw r), (2, rx o)])
def C30 : Cut := ⟨[2, 3, 4, 5, 6], [([2], 0), ([3], 1), ([4], 2), ([5], 3)], 8⟩
def view30 (i : Int) (f g r o : Nat → Int) : View := ([.p 0 0 0, .p 1 0 0, .p 2 0 0, .p 3 0 0, .i .i64 i], [(0, rw f), (1, rw g), (2, rw r), (3, rx o)])
end Go.Rf
