/- Numbers modulo p, the program: small numbers, parity, sameness, bytes, and the number of bytes: what the code computes. -/
import Derived.Test.YtbfmneknabhlcaaFldI2
set_option linter.unusedVariables false
open Go Go.Sx Go.Fld Go.Proofs
namespace Go.Fc
theorem t17 (n : Int) : evalVal (env Try.prog [] Try.f17.ntmps []) Try.f17 [.i .u32 n] = .ret (L5.av ⟨IntKind.u64.wrap n, 0, 0, 0, 0⟩) := by kernel_rfl
theorem t15 (x : L5) : evalVal (env Try.prog [] Try.f15.ntmps []) Try.f15 [x.av] = .ret (.b (iAnd .u64 x.a 1 == 1)) := by kernel_rfl
theorem t26 (x y : L5) : evalVal (env Try.prog [] Try.f26.ntmps []) Try.f26 [x.av, y.av] = .ret (.b (x.a == y.a && (x.b == y.b && (x.c == y.c && (x.d == y.d && (x.e == y.e && true)))))) := by kernel_rfl
def bitAt (l : L5) (i : Nat) : Int := iAnd .u64 (iShr .u64 (([l.a, l.b, l.c, l.d, l.e]).getD (i / 51) 0) ((i % 51 : Nat) : Int)) 1
def byteAt (l : L5) (k : Nat) : UInt8 := UInt8.ofNat ((List.range (if k = 31 then 7 else 8)).foldl (fun acc j => iOr .u8 acc (iShl .u8 (IntKind.u8.wrap (bitAt l (8 * k + j))) (j : Int))) (0 : Int)).toNat
def bytesX (l : L5) : List UInt8 := (List.range 32).map (byteAt l)
theorem t13 (l : L5) : evalVal (env Try.prog [] 30 []) Try.f13 [l.av] = .ret (.str (bytesX l)) := by kernel_rfl

def sbit (s : List UInt8) (i : Nat) : Int := iShl .u64 (IntKind.u64.wrap (iAnd .u8 (iShr .u8 ((s.getD (i / 8) 0).toNat : Int) ((i % 8 : Nat) : Int)) 1)) ((i % 51 : Nat) : Int)
def dg (s : List UInt8) (q : Nat) : Nat → Int
  | 0 => 0
  | t + 1 => iOr .u64 (dg s q t) (sbit s (51 * q + t))
def dgs (s : List UInt8) : L5 := ⟨dg s 0 51, dg s 1 51, dg s 2 51, dg s 3 51, dg s 4 51⟩
def ofEnd (s : List UInt8) : R AV :=
  let l := dgs s
  .req (0 ≤ (31 : Int) ∧ (31 : Int) < s.length) (.br (decide (((s.getD 31 0).toNat : Int) ≥ 128)) (.ret (.t [L5.av ⟨0, 0, 0, 0, 0⟩, .b false]))
    (.br (decide (l.a ≥ 2251799813685229)) (.br (l.b == 2251799813685247 && (l.c == 2251799813685247 && (l.d == 2251799813685247 && (l.e == 2251799813685247 && true)))) (.ret (.t [L5.av ⟨0, 0, 0, 0, 0⟩, .b false])) (.ret (.t [l.av, .b true])))
      (.ret (.t [l.av, .b true]))))
def reqsT (s : List UInt8) (z : R AV) : Nat → Nat → R AV
  | 0, _ => z
  | k + 1, i => .req (0 ≤ ((i / 8 : Nat) : Int) ∧ ((i / 8 : Nat) : Int) < s.length) (reqsT s z k (i + 1))
set_option maxRecDepth 100000 in
theorem t11 (s : List UInt8) : evalVal (env Try.prog [(36, e36)] Try.f11.ntmps [9, 21, 35, 37, 43, 52]) Try.f11 [.str s] =
    .br ((s.length : Int) != 32) (.ret (.t [L5.av ⟨0, 0, 0, 0, 0⟩, .b false])) (reqsT s (ofEnd s) 255 0) := by kernel_rfl
end Go.Fc
