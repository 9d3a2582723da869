/- Scalars, the program: a number's text. -/
import Derived.Test.YtdcphhcgogmaoaaScZ
set_option linter.unusedVariables false
open Go Go.Sx Go.Proofs Go.Dg
namespace Go.Sc
def wbytes (f : Nat → Int) : List UInt8 := (List.range 32).map fun i => UInt8.ofNat (IntKind.u8.wrap (iShr .u64 (f (i / 8)) ((8 * (i % 8) : Nat) : Int))).toNat
def textT (f : Nat → Int) : Nat → Nat → R AV
  | 0, _ => .ret (.str (wbytes f))
  | k + 1, i => .req (i / 8 < 4) (textT f k (i + 1))
theorem val25 (f : Nat → Int) : evalVal (envL Try.prog [] Try.f25.ntmps [] 0 RW []) Try.f25 [.rows [.int .u64 f] 4] = textT f 32 0 := by kernel_rfl

theorem byte_word (M : Int) (b : Nat) (hb : b < 8) : M % B64 / 256 ^ b % 256 = M / 256 ^ b % 256 := by
  simp only [B64]
  have : b = 0 ∨ b = 1 ∨ b = 2 ∨ b = 3 ∨ b = 4 ∨ b = 5 ∨ b = 6 ∨ b = 7 := by omega
  rcases this with rfl | rfl | rfl | rfl | rfl | rfl | rfl | rfl <;> omega
theorem byte_dig (N : Int) (i : Nat) : dig B64 N (i / 8) / 256 ^ (i % 8) % 256 = dig 256 N i := by
  unfold dig
  rw [byte_word _ _ (Nat.mod_lt _ (by omega)), Int.ediv_ediv_of_nonneg (Int.le_of_lt (pw b64 _))]
  congr 2
  have : B64 = 256 ^ 8 := by decide
  rw [this, ← Int.pow_mul, ← Int.pow_add]
  congr 1
  omega
theorem wbytes_txt {f : Nat → Int} (hf : isW f) : wbytes f = txt (V4 f) := by
  unfold wbytes txt bytesL
  refine List.map_congr_left fun i hi => ?_
  have hi := List.mem_range.1 hi
  have h1 : f (i / 8) = dig B64 (V4 f) (i / 8) := (dig_sm b64 hf (by omega)).symm
  have h2 : iShr .u64 (f (i / 8)) ((8 * (i % 8) : Nat) : Int) = f (i / 8) / 256 ^ (i % 8) := by
    unfold iShr
    rw [Int.toNat_natCast, Nat.min_eq_left (by simp [IntKind.bits]; omega), Int.fdiv_eq_ediv_of_nonneg _ (Int.le_of_lt (Int.pow_pos (by omega))), Int.pow_mul]
    rfl
  have h3 : IntKind.u8.wrap (f (i / 8) / 256 ^ (i % 8)) = f (i / 8) / 256 ^ (i % 8) % 256 := by
    simp [IntKind.wrap, IntKind.signed, IntKind.bits]
  rw [h2, h3, h1, byte_dig]
theorem textT_holds {f : Nat → Int} (hf : isW f) : ∀ k i, k + i ≤ 32 → (textT f k i).holds (· = .str (txt (V4 f)))
  | 0, i, _ => by simp only [textT, R.holds, wbytes_txt hf]
  | k + 1, i, h => ⟨by omega, textT_holds hf k (i + 1) (by omega)⟩
theorem p25 {f : Nat → Int} (hf : isW f) : PureOK Try.prog 25 [.rows [.int .u64 f] 4] (.str (txt (V4 f))) := by
  refine pure_of_envL mixed (t := []) (fun x h => nomatch h) (fn := Try.f25) (by kernel_rfl) (by kernel_rfl) rfl [] RW [] told_none ⟨trivial, trivial⟩ trivial ?_
  rw [val25]
  exact textT_holds hf 32 0 (by omega)
end Go.Sc
