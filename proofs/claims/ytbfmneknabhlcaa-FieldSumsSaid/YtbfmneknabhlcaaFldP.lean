/- Numbers modulo 2^255 - 19 in five digits of 51 bits: what the code computes. -/
import Derived.Test.YtbfmneknabhlcaaSxQ
namespace Go.Fld
open Go.Sx

def aw (x y : Int) : Int := IntKind.u64.wrap (x + y)
def sw (x y : Int) : Int := IntKind.u64.wrap (x - y)
def mw (x y : Int) : Int := IntKind.u64.wrap (x * y)
def sh (x : Int) : Int := iShr .u64 x 51
def mk (x : Int) : Int := iAnd .u64 x 2251799813685247

structure L5 where
  a : Int
  b : Int
  c : Int
  d : Int
  e : Int

def L5.av (l : L5) : AV := .a [.i .u64 l.a, .i .u64 l.b, .i .u64 l.c, .i .u64 l.d, .i .u64 l.e]

def crr (l : L5) : L5 :=
  let d1 := aw l.b (sh l.a)
  let d2 := aw l.c (sh d1)
  let d3 := aw l.d (sh d2)
  let d4 := aw l.e (sh d3)
  ⟨aw (mk l.a) (mw 19 (sh d4)), mk d1, mk d2, mk d3, mk d4⟩
def crl (l : L5) : L5 :=
  let d1 := aw l.b (sh l.a)
  let d2 := aw l.c (sh d1)
  let d3 := aw l.d (sh d2)
  ⟨mk l.a, mk d1, mk d2, mk d3, aw l.e (sh d3)⟩
def lastSub (l : L5) : L5 :=
  let d0 := aw l.a 19
  let d1 := aw l.b (sh d0)
  let d2 := aw l.c (sh d1)
  let d3 := aw l.d (sh d2)
  ⟨mk d0, mk d1, mk d2, mk d3, mk (aw l.e (sh d3))⟩

def carriedT (d : L5) : R AV :=
  let r := crl (crr (crr d))
  let X := (lastSub r).av
  let Y := r.av
  .br (decide (sh r.e > 0)) (.ret X) (.br (r.b == 2251799813685247) (.br (decide (r.a ≥ 2251799813685229))
    (.br (r.b == 2251799813685247 && (r.c == 2251799813685247 && (r.d == 2251799813685247 && (r.e == 2251799813685247 && true)))) (.ret X) (.ret Y)) (.ret Y)) (.ret Y))
def carriedX (d : L5) : L5 :=
  let r := crl (crr (crr d))
  if sh r.e > 0 ∨ (r.b = 2251799813685247 ∧ r.a ≥ 2251799813685229 ∧ r.c = 2251799813685247 ∧ r.d = 2251799813685247 ∧ r.e = 2251799813685247) then lastSub r else r

theorem carriedT_holds (d : L5) : (carriedT d).holds (· = (carriedX d).av) := by
  unfold carriedT carriedX
  generalize crl (crr (crr d)) = r
  simp only [R.holds]
  refine ⟨fun h => ?_, fun h => ⟨fun h2 => ⟨fun h3 => ⟨fun h4 => ?_, fun h4 => ?_⟩, fun h3 => ?_⟩, fun h2 => ?_⟩⟩
  · rw [if_pos (.inl (of_decide_eq_true h))]
  · simp only [Bool.and_eq_true, beq_iff_eq, and_true] at h4
    rw [if_pos (.inr ⟨h4.1, of_decide_eq_true h3, h4.2.1, h4.2.2.1, h4.2.2.2⟩)]
  · rw [if_neg]
    intro hc
    rcases hc with hc | ⟨c1, c2, c3, c4, c5⟩
    · exact absurd hc (of_decide_eq_false h)
    · rw [c1, c3, c4, c5] at h4; simp at h4
  · rw [if_neg]
    intro hc
    rcases hc with hc | ⟨c1, c2, c3, c4, c5⟩
    · exact absurd hc (of_decide_eq_false h)
    · exact absurd c2 (of_decide_eq_false h3)
  · rw [if_neg]
    intro hc
    rcases hc with hc | ⟨c1, c2, c3, c4, c5⟩
    · exact absurd hc (of_decide_eq_false h)
    · rw [c1] at h2; simp at h2
end Go.Fld
