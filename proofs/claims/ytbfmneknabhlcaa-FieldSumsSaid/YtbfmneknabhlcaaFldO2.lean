/- Numbers modulo p, the program: small numbers, parity, sameness, bytes, and the number of bytes: contracts. -/
import Derived.Test.YtbfmneknabhlcaaFldO
import Derived.Test.YtbfmneknabhlcaaScP
set_option linter.unusedVariables false
set_option linter.unusedSimpArgs false
open Go Go.Sx Go.Fld Go.Proofs Go.Dg
namespace Go.Fc
theorem FE_of {l : L5} (h : l.lt 2251799813685248) (hv : l.val < p) : l.av = FE l.val := by
  have h0 : 0 ≤ l.val := by
    obtain ⟨⟨a0, _⟩, ⟨b0, _⟩, ⟨c0, _⟩, ⟨d0, _⟩, ⟨e0, _⟩⟩ := h
    unfold L5.val; omega
  unfold FE E
  rw [Int.emod_eq_of_lt h0 hv, ← digits_of h]
theorem p17 {n : Int} (h0 : 0 ≤ n) (h1 : n < 4294967296) : PureOK Try.prog 17 [.i .u32 n] (FE n) := by
  have hw : IntKind.u64.wrap n = n := by rw [IntKind.wrap_u64]; omega
  have e : L5.av ⟨IntKind.u64.wrap n, 0, 0, 0, 0⟩ = FE n := by
    rw [hw]
    have hl : (⟨n, 0, 0, 0, 0⟩ : L5).lt 2251799813685248 := by simp only [L5.lt]; omega
    have hv : (⟨n, 0, 0, 0, 0⟩ : L5).val = n := by simp only [L5.val]; omega
    have := FE_of hl (by rw [hv]; unfold p; omega)
    rwa [hv] at this
  refine pure_of_env mixed (t := []) (fun x h => nomatch h) (fn := Try.f17) (by kernel_rfl) (by kernel_rfl) rfl [] ⟨trivial, trivial⟩ (all5 _) ?_
  rw [t17, e]; rfl
theorem and_one {n : Int} (h0 : 0 ≤ n) (h1 : n < 18446744073709551616) : iAnd .u64 n 1 = n % 2 := by
  obtain ⟨k, rfl⟩ := Int.eq_ofNat_of_zero_le h0
  have := iAnd_nat64 k 1 (by omega) (by omega)
  rw [show (1 : Int) = ((1 : Nat) : Int) from rfl, this, Nat.and_one_is_mod]; omega
theorem p15 {x : L5} (h : x.lt 2251799813685248) : PureOK Try.prog 15 [x.av] (.b (decide (x.val % 2 = 1))) := by
  refine pure_of_env mixed (t := []) (fun x h => nomatch h) (fn := Try.f15) (by kernel_rfl) (by kernel_rfl) rfl [] ⟨all5 _, trivial⟩ trivial ?_
  rw [t15]
  obtain ⟨⟨a0, a1⟩, ⟨b0, _⟩, ⟨c0, _⟩, ⟨d0, _⟩, ⟨e0, _⟩⟩ := h
  rw [and_one a0 (by omega)]
  have : x.val % 2 = x.a % 2 := by unfold L5.val; omega
  rw [this]
  show AV.b _ = AV.b _
  congr 1
theorem p26 {x y : L5} (hx : x.lt 2251799813685248) (hy : y.lt 2251799813685248) : PureOK Try.prog 26 [x.av, y.av] (.b (decide (x.val = y.val))) := by
  refine pure_of_env mixed (t := []) (fun x h => nomatch h) (fn := Try.f26) (by kernel_rfl) (by kernel_rfl) rfl [] ⟨all5 _, all5 _, trivial⟩ trivial ?_
  rw [t26]
  show AV.b _ = AV.b _
  congr 2
  rw [Bool.eq_iff_iff]
  simp only [Bool.and_eq_true, beq_iff_eq, and_true, decide_eq_true_eq]
  constructor
  · rintro ⟨h1, h2, h3, h4, h5⟩
    unfold L5.val; rw [h1, h2, h3, h4, h5]
  · intro h
    have e1 := digits_of hx
    have e2 := digits_of hy
    rw [h, ← e2] at e1
    rw [e1]; exact ⟨rfl, rfl, rfl, rfl, rfl⟩

/-! ### bits -/
theorem pow_split (i : Nat) : (2 : Int) ^ i = 2 ^ (51 * (i / 51)) * 2 ^ (i % 51) := by
  rw [← Int.pow_add]; congr 1; omega
theorem mod_div_mod {X : Int} {r m : Nat} (h : r < m) : X % 2 ^ m / 2 ^ r % 2 = X / 2 ^ r % 2 := by
  have e : (2 : Int) ^ m = 2 ^ r * (2 * 2 ^ (m - r - 1)) := by
    rw [← Int.mul_assoc, ← Int.pow_succ, ← Int.pow_add]; congr 1; omega
  have hp : (0 : Int) < 2 ^ r := Int.pow_pos (by decide)
  have hq : (0 : Int) < 2 ^ (m - r - 1) := Int.pow_pos (by decide)
  rw [e]
  generalize (2 : Int) ^ r = A at *
  generalize (2 : Int) ^ (m - r - 1) = C at *
  have h1 : X % (A * (2 * C)) = X - A * (2 * C) * (X / (A * (2 * C))) := by have := Int.emod_add_mul_ediv X (A * (2 * C)); omega
  rw [h1]
  generalize X / (A * (2 * C)) = Q
  have h2 : X - A * (2 * C) * Q = X + A * (-(2 * C * Q)) := by grind
  rw [h2, Int.add_mul_ediv_left _ _ (by omega)]
  have h3 : X / A + -(2 * C * Q) = X / A + 2 * (-(C * Q)) := by grind
  rw [h3, Int.add_mul_emod_self_left]
theorem digit51 {l : L5} (h : l.lt 2251799813685248) {q : Nat} (hq : q < 5) : [l.a, l.b, l.c, l.d, l.e].getD q 0 = l.val / 2 ^ (51 * q) % 2 ^ 51 := by
  obtain ⟨⟨a0, a1⟩, ⟨b0, b1⟩, ⟨c0, c1⟩, ⟨d0, d1⟩, ⟨e0, e1⟩⟩ := h
  have : q = 0 ∨ q = 1 ∨ q = 2 ∨ q = 3 ∨ q = 4 := by omega
  simp only [L5.val]
  rcases this with rfl | rfl | rfl | rfl | rfl
  · show l.a = _; simp only [show (2 : Int) ^ (51 * 0) = 1 from rfl, show (2 : Int) ^ 51 = 2251799813685248 from rfl]; omega
  · show l.b = _; simp only [show (2 : Int) ^ (51 * 1) = 2251799813685248 from rfl, show (2 : Int) ^ 51 = 2251799813685248 from rfl]; omega
  · show l.c = _; simp only [show (2 : Int) ^ (51 * 2) = 5070602400912917605986812821504 from rfl, show (2 : Int) ^ 51 = 2251799813685248 from rfl]; omega
  · show l.d = _; simp only [show (2 : Int) ^ (51 * 3) = 11417981541647679048466287755595961091061972992 from rfl, show (2 : Int) ^ 51 = 2251799813685248 from rfl]; omega
  · show l.e = _; simp only [show (2 : Int) ^ (51 * 4) = 25711008708143844408671393477458601640355247900524685364822016 from rfl, show (2 : Int) ^ 51 = 2251799813685248 from rfl]; omega
theorem iShr_eq (k : IntKind) (x : Int) {m : Nat} (h : m ≤ k.bits) : iShr k x (m : Int) = x / 2 ^ m := by
  unfold iShr
  rw [Int.toNat_natCast, Nat.min_eq_left h, Int.fdiv_eq_ediv_of_nonneg _ (Int.le_of_lt (Int.pow_pos (by decide)))]
theorem bitAt_eq {l : L5} (h : l.lt 2251799813685248) {i : Nat} (hi : i < 255) : bitAt l i = l.val / 2 ^ i % 2 := by
  have hd := digit51 h (q := i / 51) (by omega)
  unfold bitAt
  rw [hd]
  have h0 : 0 ≤ l.val / 2 ^ (51 * (i / 51)) % 2 ^ 51 := Int.emod_nonneg _ (by decide)
  have h1 : l.val / 2 ^ (51 * (i / 51)) % 2 ^ 51 < 2 ^ 51 := Int.emod_lt_of_pos _ (by decide)
  rw [iShr_eq .u64 _ (by show i % 51 ≤ 64; omega)]
  have hp : (0 : Int) < 2 ^ (i % 51) := Int.pow_pos (by decide)
  have h2 : l.val / 2 ^ (51 * (i / 51)) % 2 ^ 51 / 2 ^ (i % 51) ≤ l.val / 2 ^ (51 * (i / 51)) % 2 ^ 51 := Int.ediv_le_self _ h0
  have h51 : (2 : Int) ^ 51 = 2251799813685248 := rfl
  rw [and_one (Int.ediv_nonneg h0 (Int.le_of_lt hp)) (by omega), mod_div_mod (Nat.mod_lt _ (by omega)), Int.ediv_ediv_of_nonneg (Int.le_of_lt (Int.pow_pos (by decide))), ← pow_split]
theorem or_add64 {acc b : Int} {t : Nat} (ht : t < 52) (h0 : 0 ≤ acc) (h1 : acc < 2 ^ t) (hb : b = 0 ∨ b = 1) : iOr .u64 acc (b * 2 ^ t) = acc + b * 2 ^ t := by
  obtain ⟨A, rfl⟩ := Int.eq_ofNat_of_zero_le h0
  have hA : A < 2 ^ t := by
    have : ((A : Nat) : Int) < ((2 ^ t : Nat) : Int) := by rw [Int.natCast_pow]; exact h1
    omega
  have hle : 2 ^ t ≤ 2 ^ 51 := Nat.pow_le_pow_right (by omega) (by omega)
  have h51 : (2 : Nat) ^ 51 = 2251799813685248 := rfl
  rcases hb with rfl | rfl
  · have := iOr_nat64 A 0 (by omega) (by omega)
    rw [Int.zero_mul]
    rw [show ((0 : Nat) : Int) = 0 from rfl] at this
    rw [this, Nat.or_zero]; omega
  · have := iOr_nat64 A (2 ^ t) (by omega) (by omega)
    rw [Int.natCast_pow] at this
    rw [Int.one_mul]
    have e := Nat.shiftLeft_add_eq_or_of_lt hA 1
    rw [Nat.shiftLeft_eq, Nat.one_mul] at e
    rw [show (2 : Int) ^ t = (((2 : Nat) : Int)) ^ t from rfl, this, Nat.or_comm, ← e]
    rw [Int.natCast_add, Int.natCast_pow]; omega
theorem or_add8 {acc b : Int} {t : Nat} (ht : t < 8) (h0 : 0 ≤ acc) (h1 : acc < 2 ^ t) (hb : b = 0 ∨ b = 1) : iOr .u8 acc (b * 2 ^ t) = acc + b * 2 ^ t := by
  obtain ⟨A, rfl⟩ := Int.eq_ofNat_of_zero_le h0
  have hA : A < 2 ^ t := by
    have : ((A : Nat) : Int) < ((2 ^ t : Nat) : Int) := by rw [Int.natCast_pow]; exact h1
    omega
  have hle : 2 ^ t ≤ 2 ^ 7 := Nat.pow_le_pow_right (by omega) (by omega)
  have h51 : (2 : Nat) ^ 7 = 128 := rfl
  rcases hb with rfl | rfl
  · have := iOr_nat8 A 0 (by omega) (by omega)
    rw [Int.zero_mul]
    rw [show ((0 : Nat) : Int) = 0 from rfl] at this
    rw [this, Nat.or_zero]; omega
  · have := iOr_nat8 A (2 ^ t) (by omega) (by omega)
    rw [Int.natCast_pow] at this
    rw [Int.one_mul]
    have e := Nat.shiftLeft_add_eq_or_of_lt hA 1
    rw [Nat.shiftLeft_eq, Nat.one_mul] at e
    rw [show (2 : Int) ^ t = (((2 : Nat) : Int)) ^ t from rfl, this, Nat.or_comm, ← e]
    rw [Int.natCast_add, Int.natCast_pow]; omega
/-- Bits put together. -/
theorem or8 (f : Nat → Int) (hf : ∀ j, f j = 0 ∨ f j = 1) : ∀ n, n ≤ 8 → (List.range n).foldl (fun acc j => iOr .u8 acc (iShl .u8 (IntKind.u8.wrap (f j)) (j : Int))) (0 : Int) = sm 2 f n ∧ 0 ≤ sm 2 f n ∧ sm 2 f n < 2 ^ n
  | 0, _ => ⟨rfl, by simp [sm], by simp [sm]⟩
  | n + 1, hn => by
    obtain ⟨h1, h2, h3⟩ := or8 f hf n (by omega)
    have hw : IntKind.u8.wrap (f n) = f n := by
      rcases hf n with e | e <;> rw [e] <;> decide
    have hp : (0 : Int) < 2 ^ n := Int.pow_pos (by decide)
    have hle : (2 : Int) ^ n ≤ 128 := by
      have : n = 0 ∨ n = 1 ∨ n = 2 ∨ n = 3 ∨ n = 4 ∨ n = 5 ∨ n = 6 ∨ n = 7 := by omega
      rcases this with rfl | rfl | rfl | rfl | rfl | rfl | rfl | rfl <;> decide
    have hs : iShl .u8 (f n) (n : Int) = f n * 2 ^ n := by
      unfold iShl
      rw [Int.toNat_natCast, Nat.min_eq_left (by show n ≤ 8; omega)]
      have : IntKind.u8.wrap (f n * 2 ^ n) = (f n * 2 ^ n) % 256 := by simp [IntKind.wrap, IntKind.signed, IntKind.bits]
      rw [this]
      rcases hf n with e | e <;> rw [e]
      · simp
      · rw [Int.one_mul]; exact Int.emod_eq_of_lt (by omega) (by omega)
    rw [List.range_succ, List.foldl_append, h1]
    simp only [List.foldl_cons, List.foldl_nil, hw, hs, or_add8 (show n < 8 by omega) h2 h3 (hf n), sm]
    refine ⟨trivial, ?_, ?_⟩
    · rcases hf n with e | e <;> rw [e] <;> omega
    · rw [Int.pow_succ]
      rcases hf n with e | e <;> rw [e] <;> omega
/-- A number's 32 bytes. -/
def txt (n : Int) : List UInt8 := (List.range 32).map fun q => UInt8.ofNat (dig 256 n q).toNat
theorem dig2 (N : Int) (k j : Nat) : dig 2 (N / 256 ^ k) j = N / 2 ^ (8 * k + j) % 2 := by
  unfold dig
  rw [Int.ediv_ediv_of_nonneg (Int.le_of_lt (Int.pow_pos (by decide)))]
  congr 2
  rw [Int.pow_add, Int.pow_mul]
  rfl
theorem val_lt {l : L5} (h : l.lt 2251799813685248) : 0 ≤ l.val ∧ l.val < 57896044618658097711785492504343953926634992332820282019728792003956564819968 := by
  obtain ⟨⟨a0, a1⟩, ⟨b0, b1⟩, ⟨c0, c1⟩, ⟨d0, d1⟩, ⟨e0, e1⟩⟩ := h
  unfold L5.val; omega
theorem bytesX_eq {l : L5} (h : l.lt 2251799813685248) : bytesX l = txt l.val := by
  unfold bytesX txt
  refine List.map_congr_left fun k hk => ?_
  have hk := List.mem_range.1 hk
  obtain ⟨v0, v1⟩ := val_lt h
  unfold byteAt
  have hbit : ∀ j, (l.val / 2 ^ (8 * k + j) % 2 = 0 ∨ l.val / 2 ^ (8 * k + j) % 2 = 1) := fun j => by omega
  have key := or8 (fun j => l.val / 2 ^ (8 * k + j) % 2) hbit
  have h8 : dig 256 l.val k = sm 2 (fun j => l.val / 2 ^ (8 * k + j) % 2) 8 := by
    have : (fun j => l.val / 2 ^ (8 * k + j) % 2) = dig 2 (l.val / 256 ^ k) := funext fun j => (dig2 _ _ _).symm
    rw [this, sm_dig (by decide)]; rfl
  have hc : ∀ n, (n = 8 ∧ k < 31 ∨ n = 7) → (List.range n).foldl (fun acc j => iOr .u8 acc (iShl .u8 (IntKind.u8.wrap (bitAt l (8 * k + j))) (j : Int))) (0 : Int) =
      (List.range n).foldl (fun acc j => iOr .u8 acc (iShl .u8 (IntKind.u8.wrap (l.val / 2 ^ (8 * k + j) % 2)) (j : Int))) (0 : Int) := fun n hn => by
    have : ∀ (L : List Nat) (acc : Int), (∀ j ∈ L, 8 * k + j < 255) → L.foldl (fun acc j => iOr .u8 acc (iShl .u8 (IntKind.u8.wrap (bitAt l (8 * k + j))) (j : Int))) acc = L.foldl (fun acc j => iOr .u8 acc (iShl .u8 (IntKind.u8.wrap (l.val / 2 ^ (8 * k + j) % 2)) (j : Int))) acc := by
      intro L
      induction L with
      | nil => intro _ _; rfl
      | cons x L ih =>
        intro acc hL
        simp only [List.foldl_cons]
        rw [bitAt_eq h (hL x (by simp)), ih _ fun j hj => hL j (List.mem_cons_of_mem _ hj)]
    exact this _ _ fun j hj => by have := List.mem_range.1 hj; omega
  by_cases h31 : k = 31
  · subst h31
    rw [if_pos rfl, hc 7 (.inr rfl), (key 7 (by omega)).1, h8]
    congr 2
    show sm 2 (fun j => l.val / 2 ^ (8 * 31 + j) % 2) 7 = sm 2 _ 7 + l.val / 2 ^ (8 * 31 + 7) % 2 * 2 ^ 7
    have : l.val / 2 ^ (8 * 31 + 7) = 0 := Int.ediv_eq_zero_of_lt v0 v1
    rw [this]; simp
  · rw [if_neg h31, hc 8 (.inl ⟨rfl, by omega⟩), (key 8 (by omega)).1, h8]
theorem p13 {x : L5} (h : x.lt 2251799813685248) : PureOK Try.prog 13 [x.av] (.str (txt x.val)) := by
  refine pure_of_env mixed (t := []) (fun x h => nomatch h) (fn := Try.f13) (by kernel_rfl) (by kernel_rfl) rfl [] ⟨all5 _, trivial⟩ trivial ?_
  have : (Try.f13.ntmps : Nat) = 30 := rfl
  rw [this, t13, bytesX_eq h]; rfl
end Go.Fc
