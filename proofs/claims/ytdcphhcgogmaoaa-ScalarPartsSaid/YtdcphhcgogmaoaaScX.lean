/- Scalars, the program: words. -/
import Derived.Test.YtdcphhcgogmaoaaScW
import Derived.Shelf.Spec.BitsCarry
set_option linter.unusedVariables false
open Go Go.Sx Go.Proofs Go.Dg
namespace Go.Sc
abbrev B64 : Int := 18446744073709551616
/-- Sums of words with a carry. -/
def add64X (x y c : Int) : AV := .t [.i .u64 ((x + y + c) % B64), .i .u64 ((x + y + c) / B64)]
theorem find31 : Extern.find Try.f31 = some add64Entry := by kernel_rfl
theorem p31 {x y c : Int} (hx : 0 ≤ x) (hy : 0 ≤ y) (h0 : 0 ≤ c) (h1 : c ≤ 1) : PureOK Try.prog 31 [.i .u64 x, .i .u64 y, .i .u64 c] (add64X x y c) := by
  refine pure_of_extern ⟨trivial, trivial, trivial⟩ fun ρ w => ?_
  rw [run_callFunc_extern (fn := Try.f31) (by kernel_rfl) (by kernel_rfl) (by kernel_rfl) (by kernel_rfl) find31]
  have := run_add64 (P := Try.prog) x y c hx hy h0 h1 w
  simp only [concL, conc] at *
  rw [show (#[Value.int .u64 x, Value.int .u64 y, Value.int .u64 c] : Array Value) = [Value.int .u64 x, Value.int .u64 y, Value.int .u64 c].toArray from rfl] at this
  rw [this]
  simp [Result.andThen, add64X, conc, concL]

/-- Differences of words with a borrow. -/
def sub64X (x y c : Int) : AV := .t [.i .u64 ((x - y - c) % B64), .i .u64 (-((x - y - c) / B64))]
theorem find42 : Extern.find Try.f42 = some sub64Entry := by kernel_rfl
theorem p42 {x y c : Int} (hx : 0 ≤ x) (hx1 : x < B64) (hy : 0 ≤ y) (hy1 : y < B64) (h0 : 0 ≤ c) (h1 : c ≤ 1) : PureOK Try.prog 42 [.i .u64 x, .i .u64 y, .i .u64 c] (sub64X x y c) := by
  refine pure_of_extern ⟨trivial, trivial, trivial⟩ fun ρ w => ?_
  rw [run_callFunc_extern (fn := Try.f42) (by kernel_rfl) (by kernel_rfl) (by kernel_rfl) (by kernel_rfl) find42]
  obtain ⟨X, rfl⟩ := Int.eq_ofNat_of_zero_le hx
  obtain ⟨Y, rfl⟩ := Int.eq_ofNat_of_zero_le hy
  obtain ⟨C, rfl⟩ := Int.eq_ofNat_of_zero_le h0
  have := run_sub64 (P := Try.prog) X Y C (by omega) w
  simp only [concL, conc] at *
  rw [show (#[Value.int .u64 X, Value.int .u64 Y, Value.int .u64 C] : Array Value) = [Value.int .u64 X, Value.int .u64 Y, Value.int .u64 C].toArray from rfl] at this
  rw [this]
  simp only [B64] at hx1 hy1
  simp only [Result.andThen, sub64X, conc, concL, B64]
  have e1 : (((X + 18446744073709551616 - Y - C) % 18446744073709551616 : Nat) : Int) = ((X : Int) - Y - C) % 18446744073709551616 := by
    by_cases h : X < Y + C
    · rw [Nat.mod_eq_of_lt (by omega)]; omega
    · omega
  have e2 : (((if X < Y + C then 1 else 0 : Nat)) : Int) = -(((X : Int) - Y - C) / 18446744073709551616) := by
    split <;> omega
  rw [e1, e2]

def e31 : Entry := fun vs => match vs with
  | [.v (.int .u64 x), .v (.int .u64 y), .v (.int .u64 c)] => some (.req (0 ≤ x ∧ 0 ≤ y ∧ 0 ≤ c ∧ c ≤ 1) (.ret (add64X x y c)))
  | _ => none
theorem e31_ok : EntryOK Try.prog (31, e31) := fun vs r h => by
  dsimp only [e31] at h
  split at h
  · cases h; exact .inr ⟨_, _, rfl, fun ⟨h1, h2, h3, h4⟩ => p31 h1 h2 h3 h4⟩
  · exact nomatch h
def e42 : Entry := fun vs => match vs with
  | [.v (.int .u64 x), .v (.int .u64 y), .v (.int .u64 c)] => some (.req ((0 ≤ x ∧ x < B64) ∧ (0 ≤ y ∧ y < B64) ∧ 0 ≤ c ∧ c ≤ 1) (.ret (sub64X x y c)))
  | _ => none
theorem e42_ok : EntryOK Try.prog (42, e42) := fun vs r h => by
  dsimp only [e42] at h
  split at h
  · cases h; exact .inr ⟨_, _, rfl, fun ⟨⟨h1, h2⟩, ⟨h3, h4⟩, h5, h6⟩ => p42 h1 h2 h3 h4 h5 h6⟩
  · exact nomatch h
abbrev RW : List Nat := [34]
abbrev rwu (f : Nat → Int) : AObj := .rows [.int .u64 f] 4 false
def isW (f : Nat → Int) : Prop := ∀ q, q < 4 → 0 ≤ f q ∧ f q < B64
def V4 (f : Nat → Int) : Int := sm B64 f 4
def W (n : Int) : AV := .rows [.int .u64 (dig B64 n)] 4
def extW (n : Int) (m : Nat) (f : Nat → Int) : Nat → Int := fun q => if q < m then dig B64 n q else f q
theorem extW_zero (n : Int) (f : Nat → Int) : extW n 0 f = f := by funext q; simp [extW]
theorem extW_self (n : Int) (i : Nat) (f : Nat → Int) : extW n i f i = f i := by simp [extW]
theorem extW_succ (n : Int) (i : Nat) (f : Nat → Int) : (fun q => if q = i then dig B64 n i else extW n i f q) = extW n (i + 1) f := by
  funext q
  simp only [extW]
  by_cases h1 : q = i
  · subst h1; simp
  · by_cases h2 : q < i
    · rw [if_neg h1, if_pos h2, if_pos (by omega)]
    · rw [if_neg h1, if_neg h2, if_neg (by omega)]
theorem b64 : (0 : Int) < B64 := by decide
theorem isW_dig (n : Int) : isW (dig B64 n) := fun q _ => dig_range b64 n q
theorem V4_dig (n : Int) : V4 (dig B64 n) = n % B64 ^ 4 := sm_dig b64 n 4
theorem V4_range {f : Nat → Int} (h : isW f) : 0 ≤ V4 f ∧ V4 f < B64 ^ 4 := sm_lt b64 h
abbrev ix4 {α : Type} (i : Int) (k : R α) : R α := .req (0 ≤ i ∧ i < 4) (.req (i.toNat < 4) k)

/-! ### add, ahead of the order's taking off -/
def C24 : Cut := ⟨[2, 3, 4, 5, 7], [([2], 0), ([3], 1), ([4], 2)], 8⟩
def view24 (c i : Int) (f g r : Nat → Int) : View := ([.p 0 0 0, .p 1 0 0, .p 2 0 0, .i .u64 c, .i .i64 i], [(0, rwu f), (1, rwu g), (2, rwu r)])
def spec24 : Sx.Spec := fun x => match x with
  | ([.p 0 0 0, .p 1 0 0, .p 2 0 0, .v (.int .u64 c), .v (.int .i64 i)], [(0, .rows [.int .u64 f] 4 false), (1, .rows [.int .u64 g] 4 false), (2, .rows [.int .u64 r] 4 false)]) =>
    some (.req (c = 0 ∧ i = 0 ∧ isW f ∧ isW g) (.ret (.exit 0, view24 ((V4 f + V4 g) / B64 ^ 4) 4 (extW (V4 f + V4 g) 4 f) g r)))
  | _ => none
def L24 : LoopC := ⟨3, C24, spec24⟩
end Go.Sc
