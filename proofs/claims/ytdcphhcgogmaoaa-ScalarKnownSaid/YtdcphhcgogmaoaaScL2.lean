/- Scalars: the laws, but for the one of parts: what they come to. -/
import Derived.Test.YtdcphhcgogmaoaaScL
set_option linter.unusedVariables false
open Go Go.Sx Go.Proofs Go.Dg
namespace Go.Sc
theorem txt_length (n : Int) : (txt n).length = 32 := bytesL_length _
theorem num_txt {n : Int} (h1 : 0 ≤ n) (h2 : n < 256 ^ 32) : num (txt n) = n % order := by
  unfold num first
  rw [List.take_of_length_le (by rw [txt_length]; omega), le_txt, Int.emod_eq_of_lt h1 h2]
theorem num_mod (n : Int) : num (txt (n % order)) = n % order := by
  have h1 := Int.emod_nonneg n (show order ≠ 0 by decide)
  have h2 := Int.emod_lt_of_pos n order_pos
  have h3 := order_lt32
  rw [num_txt h1 (by omega), Int.emod_emod]
theorem num_addT (a b : List UInt8) : num (addT a b) = (num a + num b) % order := num_mod _
theorem num_mulT (a b : List UInt8) : num (mulT a b) = num a * num b % order := num_mod _
theorem num_redT (a : List UInt8) : num (redT a) = num a := by
  unfold redT
  obtain ⟨h1, h2⟩ := num_range a
  have h3 := order_lt32
  rw [num_txt h1 (by omega), Int.emod_eq_of_lt h1 h2]
theorem redT_redT (a : List UInt8) : redT (redT a) = redT a := by
  rw [redT, num_redT]; rfl
theorem num_nil : num [] = 0 := by decide
theorem num_one : num [1] = 1 := by decide +kernel
theorem num_order : num orderT = 0 := by decide +kernel
theorem txt_zero : txt 0 = 0 :: zs 31 := by decide +kernel
theorem order_ne : order ≠ 0 := by decide
theorem mod_num (a : List UInt8) : num a % order = num a := Int.emod_eq_of_lt (num_range a).1 (num_range a).2
theorem check_txt {n : Int} (h1 : 0 ≤ n) (h2 : n < order) : check (txt n) = true := by
  have h3 := order_lt32
  unfold check
  rw [txt_length, num_txt h1 (by omega), Int.emod_eq_of_lt h1 h2]
  simp

theorem emodL (a b n : Int) : a % n * b % n = a * b % n := by rw [Int.mul_emod, Int.emod_emod, ← Int.mul_emod]
theorem emodR (a b n : Int) : a * (b % n) % n = a * b % n := by rw [Int.mul_comm, emodL, Int.mul_comm]
theorem v3 (a b : List UInt8) : must (evalVal (envL Try.prog TL Try.f3.ntmps [12] 0 RT []) Try.f3 [.str a, .str b]) = ((addT a b == addT a b) = true ∧ true = true) := by kernel_rfl
theorem v4 (a b : List UInt8) : must (evalVal (envL Try.prog TL Try.f4.ntmps [12] 0 RT []) Try.f4 [.str a, .str b]) = ((mulT a b == mulT a b) = true ∧ true = true) := by kernel_rfl
theorem v5 (a b c : List UInt8) : must (evalVal (envL Try.prog TL Try.f5.ntmps [22, 30, 42, 51, 61, 67, 74, 80] 0 RT []) Try.f5 [.str a, .str b, .str c]) =
    ((!addT a b == addT b a) = false ∧ (!addT (addT a b) c == addT a (addT b c)) = false ∧ (!mulT a b == mulT b a) = false ∧ (!mulT (mulT a b) c == mulT a (mulT b c)) = false ∧
      (!mulT (addT a b) c == addT (mulT a c) (mulT b c)) = false ∧ (addT a [] == redT a) = true ∧ (mulT a [1] == redT a) = true ∧ (mulT a [] == 0 :: zs 31) = true ∧ true = true) := by kernel_rfl
def topT : List UInt8 := [236] ++ (orderT.take 32).drop 1
theorem v7 (a : List UInt8) : must (evalVal (envL Try.prog TL Try.f7.ntmps [10, 16, 23, 29, 37, 44] 0 RT []) Try.f7 [.str a]) =
    ((!check (redT a)) = false ∧ (!redT (redT a) == redT a) = false ∧ (!addT a orderT == redT a) = false ∧ (!mulT a orderT == 0 :: zs 31) = false ∧ check (mulT topT a) = true ∧
      (addT (mulT topT a) a == 0 :: zs 31) = true ∧ true = true) := by kernel_rfl
theorem v8 (a : List UInt8) : must (evalVal (envL Try.prog TL Try.f8.ntmps [8, 15, 22] 0 RT []) Try.f8 [.str a]) = ((redT a == redT a) = true ∧ (check a == check a) = true ∧ (clamp a == clamp a) = true ∧ true = true) := by kernel_rfl
theorem v9 : must (evalVal (envL Try.prog TL Try.f9.ntmps [] 0 RT []) Try.f9 []) = (true = true) := by kernel_rfl

theorem p3 (a b : List UInt8) : PureOK Try.prog 3 [.str a, .str b] (.b true) := by
  refine pure_of_must mixed tl_ok (fn := Try.f3) (by kernel_rfl) (by kernel_rfl) rfl [12] RT [] told_none ⟨trivial, trivial, trivial⟩ ?_
  rw [v3]; exact ⟨by simp, rfl⟩
theorem p4 (a b : List UInt8) : PureOK Try.prog 4 [.str a, .str b] (.b true) := by
  refine pure_of_must mixed tl_ok (fn := Try.f4) (by kernel_rfl) (by kernel_rfl) rfl [12] RT [] told_none ⟨trivial, trivial, trivial⟩ ?_
  rw [v4]; exact ⟨by simp, rfl⟩
theorem nbeq_of {a b : List UInt8} (h : a = b) : (!a == b) = false := by rw [h]; simp
theorem beq_of {a b : List UInt8} (h : a = b) : (a == b) = true := by rw [h]; simp
theorem p5 (a b c : List UInt8) : PureOK Try.prog 5 [.str a, .str b, .str c] (.b true) := by
  refine pure_of_must mixed tl_ok (fn := Try.f5) (by kernel_rfl) (by kernel_rfl) rfl [22, 30, 42, 51, 61, 67, 74, 80] RT [] told_none ⟨trivial, trivial, trivial, trivial⟩ ?_
  rw [v5]
  refine ⟨nbeq_of ?_, nbeq_of ?_, nbeq_of ?_, nbeq_of ?_, nbeq_of ?_, beq_of ?_, beq_of ?_, beq_of ?_, rfl⟩
  · unfold addT; rw [Int.add_comm]
  · rw [addT, num_addT, addT, num_addT, Int.emod_add_emod, Int.add_emod_emod, Int.add_assoc]
  · unfold mulT; rw [Int.mul_comm]
  · rw [mulT, num_mulT, mulT, num_mulT, emodL, emodR, Int.mul_assoc]
  · rw [mulT, num_addT, addT, num_mulT, num_mulT, emodL, ← Int.add_emod, Int.add_mul]
  · rw [addT, num_nil, Int.add_zero, mod_num]; rfl
  · rw [mulT, num_one, Int.mul_one, mod_num]; rfl
  · rw [mulT, num_nil, Int.mul_zero, Int.zero_emod, txt_zero]
theorem num_top : num topT = order - 1 := by decide +kernel
theorem p7 (a : List UInt8) : PureOK Try.prog 7 [.str a] (.b true) := by
  refine pure_of_must mixed tl_ok (fn := Try.f7) (by kernel_rfl) (by kernel_rfl) rfl [10, 16, 23, 29, 37, 44] RT [] told_none ⟨trivial, trivial⟩ ?_
  rw [v7]
  refine ⟨?_, nbeq_of (redT_redT a), nbeq_of ?_, nbeq_of ?_, ?_, beq_of ?_, rfl⟩
  · rw [redT, check_txt (num_range a).1 (num_range a).2]; rfl
  · rw [addT, num_order, Int.add_zero, mod_num]; rfl
  · rw [mulT, num_order, Int.mul_zero, Int.zero_emod, txt_zero]
  · exact check_txt (Int.emod_nonneg _ order_ne) (Int.emod_lt_of_pos _ order_pos)
  · rw [addT, num_mulT, num_top, Int.emod_add_emod]
    have : (order - 1) * num a + num a = order * num a := by rw [Int.sub_mul]; omega
    rw [this, Int.mul_emod_right, txt_zero]
theorem p8 (a : List UInt8) : PureOK Try.prog 8 [.str a] (.b true) := by
  refine pure_of_must mixed tl_ok (fn := Try.f8) (by kernel_rfl) (by kernel_rfl) rfl [8, 15, 22] RT [] told_none ⟨trivial, trivial⟩ ?_
  rw [v8]; exact ⟨by simp, by simp, by simp, rfl⟩
theorem p9 : PureOK Try.prog 9 [] (.b true) := by
  refine pure_of_must mixed tl_ok (fn := Try.f9) (by kernel_rfl) (by kernel_rfl) rfl [] RT [] told_none trivial ?_
  rw [v9]
end Go.Sc
