/- Numbers modulo 2^255 - 19: the digits' arithmetic is right. -/
import Derived.Test.YtbfmneknabhlcaaFldP
import Derived.Laws.Bits64
set_option linter.unusedSimpArgs false
namespace Go.Fld
open Go.Sx

/-! ### bits of natural numbers -/
theorem iAnd_nat64 (x y : Nat) (hx : x < 18446744073709551616) (hy : y < 18446744073709551616) : iAnd .u64 x y = ((x &&& y : Nat) : Int) := by
  unfold iAnd
  rw [IntKind.wrap_u64]
  have e : ((BitVec.ofInt IntKind.u64.bits (x : Int)) &&& (BitVec.ofInt IntKind.u64.bits (y : Int))).toNat = x &&& y := by
    rw [BitVec.toNat_and, BitVec.ofInt_natCast, BitVec.ofInt_natCast, BitVec.toNat_ofNat, BitVec.toNat_ofNat, Nat.mod_eq_of_lt (by exact hx), Nat.mod_eq_of_lt (by exact hy)]
  rw [e]
  have : x &&& y ≤ x := Nat.and_le_left
  omega
theorem iOr_nat64 (x y : Nat) (hx : x < 18446744073709551616) (hy : y < 18446744073709551616) : iOr .u64 x y = ((x ||| y : Nat) : Int) := by
  unfold iOr
  rw [IntKind.wrap_u64]
  have e : ((BitVec.ofInt IntKind.u64.bits (x : Int)) ||| (BitVec.ofInt IntKind.u64.bits (y : Int))).toNat = x ||| y := by
    rw [BitVec.toNat_or, BitVec.ofInt_natCast, BitVec.ofInt_natCast, BitVec.toNat_ofNat, BitVec.toNat_ofNat, Nat.mod_eq_of_lt (by exact hx), Nat.mod_eq_of_lt (by exact hy)]
  rw [e]
  have : x ||| y < 2 ^ 64 := Nat.or_lt_two_pow (by simpa using hx) (by simpa using hy)
  omega
theorem iAnd_nat8 (x y : Nat) (hx : x < 256) (hy : y < 256) : iAnd .u8 x y = ((x &&& y : Nat) : Int) := by
  unfold iAnd
  rw [IntKind.wrap_u8]
  have e : ((BitVec.ofInt IntKind.u8.bits (x : Int)) &&& (BitVec.ofInt IntKind.u8.bits (y : Int))).toNat = x &&& y := by
    rw [BitVec.toNat_and, BitVec.ofInt_natCast, BitVec.ofInt_natCast, BitVec.toNat_ofNat, BitVec.toNat_ofNat, Nat.mod_eq_of_lt (by exact hx), Nat.mod_eq_of_lt (by exact hy)]
  rw [e]
  have : x &&& y ≤ x := Nat.and_le_left
  omega
theorem iOr_nat8 (x y : Nat) (hx : x < 256) (hy : y < 256) : iOr .u8 x y = ((x ||| y : Nat) : Int) := by
  unfold iOr
  rw [IntKind.wrap_u8]
  have e : ((BitVec.ofInt IntKind.u8.bits (x : Int)) ||| (BitVec.ofInt IntKind.u8.bits (y : Int))).toNat = x ||| y := by
    rw [BitVec.toNat_or, BitVec.ofInt_natCast, BitVec.ofInt_natCast, BitVec.toNat_ofNat, BitVec.toNat_ofNat, Nat.mod_eq_of_lt (by exact hx), Nat.mod_eq_of_lt (by exact hy)]
  rw [e]
  have : x ||| y < 2 ^ 8 := Nat.or_lt_two_pow (by simpa using hx) (by simpa using hy)
  omega

theorem sh_eq (x : Int) : sh x = x / 2251799813685248 := by
  unfold sh iShr
  rw [Int.fdiv_eq_ediv_of_nonneg _ (by decide)]
  rfl
theorem mk_eq {x : Int} (h0 : 0 ≤ x) (h1 : x < 18446744073709551616) : mk x = x % 2251799813685248 := by
  obtain ⟨n, rfl⟩ := Int.eq_ofNat_of_zero_le h0
  have := iAnd_nat64 n 2251799813685247 (by omega) (by decide)
  unfold mk
  rw [show (2251799813685247 : Int) = ((2251799813685247 : Nat) : Int) from rfl, this, show (2251799813685247 : Nat) = 2 ^ 51 - 1 from rfl, Nat.and_two_pow_sub_one_eq_mod]
  omega
theorem aw_eq (x y : Int) : aw x y = (x + y) % 18446744073709551616 := IntKind.wrap_u64 _
theorem sw_eq (x y : Int) : sw x y = (x - y) % 18446744073709551616 := IntKind.wrap_u64 _
theorem mw_eq (x y : Int) : mw x y = (x * y) % 18446744073709551616 := IntKind.wrap_u64 _

/-! ### digits -/
def p : Int := 57896044618658097711785492504343953926634992332820282019728792003956564819949
def L5.val (l : L5) : Int := l.a + 2251799813685248 * l.b + 5070602400912917605986812821504 * l.c + 11417981541647679048466287755595961091061972992 * l.d + 25711008708143844408671393477458601640355247900524685364822016 * l.e
def L5.lt (l : L5) (n : Int) : Prop := (0 ≤ l.a ∧ l.a < n) ∧ (0 ≤ l.b ∧ l.b < n) ∧ (0 ≤ l.c ∧ l.c < n) ∧ (0 ≤ l.d ∧ l.d < n) ∧ (0 ≤ l.e ∧ l.e < n)

/-- The digits of a number below 2^255. -/
def digits (n : Int) : L5 :=
  ⟨n % 2251799813685248, n / 2251799813685248 % 2251799813685248, n / 5070602400912917605986812821504 % 2251799813685248,
    n / 11417981541647679048466287755595961091061972992 % 2251799813685248, n / 25711008708143844408671393477458601640355247900524685364822016 % 2251799813685248⟩

theorem digits_of {l : L5} (h : l.lt 2251799813685248) : l = digits l.val := by
  obtain ⟨a, b, c, d, e⟩ := l
  simp only [L5.lt, L5.val, digits, L5.mk.injEq] at *
  omega

theorem digits_val {n : Int} (h0 : 0 ≤ n) (h1 : n < 57896044618658097711785492504343953926634992332820282019728792003956564819968) : (digits n).val = n := by
  simp only [L5.val, digits]; omega
theorem digits_lt (n : Int) : (digits n).lt 2251799813685248 := by
  simp only [L5.lt, digits]; omega

theorem crr_spec {l : L5} (h : l.lt 9223372036854775808) : ∃ q, l.val = (crr l).val + p * q ∧ 0 ≤ q ∧ q ≤ 4096 ∧ (0 ≤ (crr l).a ∧ (crr l).a < 2251799813685248 + 19 * 4097) ∧
    (0 ≤ (crr l).b ∧ (crr l).b < 2251799813685248) ∧ (0 ≤ (crr l).c ∧ (crr l).c < 2251799813685248) ∧ (0 ≤ (crr l).d ∧ (crr l).d < 2251799813685248) ∧ (0 ≤ (crr l).e ∧ (crr l).e < 2251799813685248) := by
  obtain ⟨a, b, c, d, e⟩ := l
  simp only [L5.lt] at h
  obtain ⟨⟨a0, a1⟩, ⟨b0, b1⟩, ⟨c0, c1⟩, ⟨d0, d1⟩, ⟨e0, e1⟩⟩ := h
  simp only [crr, aw_eq, mw_eq, sh_eq]
  have k1 : (b + a / 2251799813685248) % 18446744073709551616 = b + a / 2251799813685248 := by omega
  rw [k1]
  generalize hd1 : b + a / 2251799813685248 = d1
  have k2 : (c + d1 / 2251799813685248) % 18446744073709551616 = c + d1 / 2251799813685248 := by omega
  rw [k2]
  generalize hd2 : c + d1 / 2251799813685248 = d2
  have k3 : (d + d2 / 2251799813685248) % 18446744073709551616 = d + d2 / 2251799813685248 := by omega
  rw [k3]
  generalize hd3 : d + d2 / 2251799813685248 = d3
  have k4 : (e + d3 / 2251799813685248) % 18446744073709551616 = e + d3 / 2251799813685248 := by omega
  rw [k4]
  generalize hd4 : e + d3 / 2251799813685248 = d4
  have m1 : 0 ≤ d1 ∧ d1 < 9223372036854779904 := by omega
  have m2 : 0 ≤ d2 ∧ d2 < 9223372036854779905 := by omega
  have m3 : 0 ≤ d3 ∧ d3 < 9223372036854779905 := by omega
  have m4 : 0 ≤ d4 ∧ d4 < 9223372036854779905 := by omega
  have mq : 0 ≤ d4 / 2251799813685248 ∧ d4 / 2251799813685248 ≤ 4096 := by omega
  have mr : 0 ≤ a % 2251799813685248 ∧ a % 2251799813685248 < 2251799813685248 := by omega
  rw [mk_eq a0 (by omega), mk_eq (x := d1) (by omega) (by omega), mk_eq (x := d2) (by omega) (by omega), mk_eq (x := d3) (by omega) (by omega), mk_eq (x := d4) (by omega) (by omega)]
  have k5 : (a % 2251799813685248 + 19 * (d4 / 2251799813685248) % 18446744073709551616) % 18446744073709551616 = a % 2251799813685248 + 19 * (d4 / 2251799813685248) := by
    generalize d4 / 2251799813685248 = q at mq
    generalize a % 2251799813685248 = r at mr
    omega
  rw [k5]
  refine ⟨d4 / 2251799813685248, ?_, mq.1, mq.2, ?_, by omega, by omega, by omega, by omega⟩
  · simp only [L5.val, p]
    omega
  · generalize d4 / 2251799813685248 = q at mq
    generalize a % 2251799813685248 = r at mr
    omega

theorem crr_spec2 {l : L5} (ha : 0 ≤ l.a ∧ l.a < 2251799813685248 + 19 * 4097) (hb : 0 ≤ l.b ∧ l.b < 2251799813685248) (hc : 0 ≤ l.c ∧ l.c < 2251799813685248) (hd : 0 ≤ l.d ∧ l.d < 2251799813685248)
    (he : 0 ≤ l.e ∧ l.e < 2251799813685248) : ∃ q, l.val = (crr l).val + p * q ∧ (0 ≤ (crr l).a ∧ (crr l).a < 2251799813685248 + 19) ∧
    (0 ≤ (crr l).b ∧ (crr l).b < 2251799813685248) ∧ (0 ≤ (crr l).c ∧ (crr l).c < 2251799813685248) ∧ (0 ≤ (crr l).d ∧ (crr l).d < 2251799813685248) ∧ (0 ≤ (crr l).e ∧ (crr l).e < 2251799813685248) := by
  obtain ⟨a, b, c, d, e⟩ := l
  dsimp only at ha hb hc hd he
  obtain ⟨a0, a1⟩ := ha
  obtain ⟨b0, b1⟩ := hb
  obtain ⟨c0, c1⟩ := hc
  obtain ⟨d0, d1'⟩ := hd
  obtain ⟨e0, e1⟩ := he
  simp only [crr, aw_eq, mw_eq, sh_eq]
  have m0 : 0 ≤ a / 2251799813685248 ∧ a / 2251799813685248 ≤ 1 := by omega
  have k1 : (b + a / 2251799813685248) % 18446744073709551616 = b + a / 2251799813685248 := by omega
  rw [k1]
  generalize hd1 : b + a / 2251799813685248 = d1
  have m1 : 0 ≤ d1 ∧ d1 ≤ 2251799813685248 := by omega
  have n1 : 0 ≤ d1 / 2251799813685248 ∧ d1 / 2251799813685248 ≤ 1 := by omega
  have k2 : (c + d1 / 2251799813685248) % 18446744073709551616 = c + d1 / 2251799813685248 := by omega
  rw [k2]
  generalize hd2 : c + d1 / 2251799813685248 = d2
  have m2 : 0 ≤ d2 ∧ d2 ≤ 2251799813685248 := by omega
  have n2 : 0 ≤ d2 / 2251799813685248 ∧ d2 / 2251799813685248 ≤ 1 := by omega
  have k3 : (d + d2 / 2251799813685248) % 18446744073709551616 = d + d2 / 2251799813685248 := by omega
  rw [k3]
  generalize hd3 : d + d2 / 2251799813685248 = d3
  have m3 : 0 ≤ d3 ∧ d3 ≤ 2251799813685248 := by omega
  have n3 : 0 ≤ d3 / 2251799813685248 ∧ d3 / 2251799813685248 ≤ 1 := by omega
  have k4 : (e + d3 / 2251799813685248) % 18446744073709551616 = e + d3 / 2251799813685248 := by omega
  rw [k4]
  generalize hd4 : e + d3 / 2251799813685248 = d4
  have m4 : 0 ≤ d4 ∧ d4 ≤ 2251799813685248 := by omega
  have mq : 0 ≤ d4 / 2251799813685248 ∧ d4 / 2251799813685248 ≤ 1 := by omega
  have mr : 0 ≤ a % 2251799813685248 ∧ a % 2251799813685248 < 2251799813685248 := by omega
  rw [mk_eq a0 (by omega), mk_eq (x := d1) (by omega) (by omega), mk_eq (x := d2) (by omega) (by omega), mk_eq (x := d3) (by omega) (by omega), mk_eq (x := d4) (by omega) (by omega)]
  have k5 : (a % 2251799813685248 + 19 * (d4 / 2251799813685248) % 18446744073709551616) % 18446744073709551616 = a % 2251799813685248 + 19 * (d4 / 2251799813685248) := by
    generalize d4 / 2251799813685248 = q at mq
    generalize a % 2251799813685248 = r at mr
    omega
  rw [k5]
  refine ⟨d4 / 2251799813685248, ?_, ?_, by omega, by omega, by omega, by omega⟩
  · simp only [L5.val, p]
    omega
  · generalize d4 / 2251799813685248 = q at mq
    generalize a % 2251799813685248 = r at mr
    omega

theorem crl_spec {l : L5} (ha : 0 ≤ l.a ∧ l.a < 2251799813685248 + 19) (hb : 0 ≤ l.b ∧ l.b < 2251799813685248) (hc : 0 ≤ l.c ∧ l.c < 2251799813685248) (hd : 0 ≤ l.d ∧ l.d < 2251799813685248)
    (he : 0 ≤ l.e ∧ l.e < 2251799813685248) : l.val = (crl l).val ∧ (0 ≤ (crl l).a ∧ (crl l).a < 2251799813685248) ∧
    (0 ≤ (crl l).b ∧ (crl l).b < 2251799813685248) ∧ (0 ≤ (crl l).c ∧ (crl l).c < 2251799813685248) ∧ (0 ≤ (crl l).d ∧ (crl l).d < 2251799813685248) ∧ (0 ≤ (crl l).e ∧ (crl l).e ≤ 2251799813685248) ∧
    (crl l).val < 57896044618658097711785492504343953926634992332820282019728792003956564819968 + 19 := by
  obtain ⟨a, b, c, d, e⟩ := l
  dsimp only at ha hb hc hd he
  obtain ⟨a0, a1⟩ := ha
  obtain ⟨b0, b1⟩ := hb
  obtain ⟨c0, c1⟩ := hc
  obtain ⟨d0, d1'⟩ := hd
  obtain ⟨e0, e1⟩ := he
  simp only [crl, aw_eq, mw_eq, sh_eq]
  have m0 : 0 ≤ a / 2251799813685248 ∧ a / 2251799813685248 ≤ 1 := by omega
  have k1 : (b + a / 2251799813685248) % 18446744073709551616 = b + a / 2251799813685248 := by omega
  rw [k1]
  generalize hd1 : b + a / 2251799813685248 = d1
  have m1 : 0 ≤ d1 ∧ d1 ≤ 2251799813685248 := by omega
  have n1 : 0 ≤ d1 / 2251799813685248 ∧ d1 / 2251799813685248 ≤ 1 := by omega
  have k2 : (c + d1 / 2251799813685248) % 18446744073709551616 = c + d1 / 2251799813685248 := by omega
  rw [k2]
  generalize hd2 : c + d1 / 2251799813685248 = d2
  have m2 : 0 ≤ d2 ∧ d2 ≤ 2251799813685248 := by omega
  have n2 : 0 ≤ d2 / 2251799813685248 ∧ d2 / 2251799813685248 ≤ 1 := by omega
  have k3 : (d + d2 / 2251799813685248) % 18446744073709551616 = d + d2 / 2251799813685248 := by omega
  rw [k3]
  generalize hd3 : d + d2 / 2251799813685248 = d3
  have m3 : 0 ≤ d3 ∧ d3 ≤ 2251799813685248 := by omega
  have n3 : 0 ≤ d3 / 2251799813685248 ∧ d3 / 2251799813685248 ≤ 1 := by omega
  have k4 : (e + d3 / 2251799813685248) % 18446744073709551616 = e + d3 / 2251799813685248 := by omega
  rw [k4]
  rw [mk_eq a0 (by omega), mk_eq (x := d1) (by omega) (by omega), mk_eq (x := d2) (by omega) (by omega), mk_eq (x := d3) (by omega) (by omega)]
  have hv : (⟨a, b, c, d, e⟩ : L5).val = (⟨a % 2251799813685248, d1 % 2251799813685248, d2 % 2251799813685248, d3 % 2251799813685248, e + d3 / 2251799813685248⟩ : L5).val := by
    simp only [L5.val]; omega
  refine ⟨hv, by omega, by omega, by omega, by omega, by omega, ?_⟩
  rw [← hv]
  simp only [L5.val]; omega

theorem lastSub_spec {l : L5} (ha : 0 ≤ l.a ∧ l.a < 2251799813685248) (hb : 0 ≤ l.b ∧ l.b < 2251799813685248) (hc : 0 ≤ l.c ∧ l.c < 2251799813685248) (hd : 0 ≤ l.d ∧ l.d < 2251799813685248)
    (he : 0 ≤ l.e ∧ l.e ≤ 2251799813685248) (h0 : p ≤ l.val) (h1 : l.val < 57896044618658097711785492504343953926634992332820282019728792003956564819968 + 19) :
    (lastSub l).lt 2251799813685248 ∧ (lastSub l).val = l.val - p := by
  obtain ⟨a, b, c, d, e⟩ := l
  dsimp only at ha hb hc hd he
  obtain ⟨a0, a1⟩ := ha
  obtain ⟨b0, b1⟩ := hb
  obtain ⟨c0, c1⟩ := hc
  obtain ⟨d0, d1'⟩ := hd
  obtain ⟨e0, e1⟩ := he
  simp only [L5.val, p] at h0 h1
  simp only [lastSub, aw_eq, mw_eq, sh_eq]
  have k0 : (a + 19) % 18446744073709551616 = a + 19 := by omega
  rw [k0]
  generalize hz : a + 19 = z
  have m0 : 0 ≤ z / 2251799813685248 ∧ z / 2251799813685248 ≤ 1 := by omega
  have k1 : (b + z / 2251799813685248) % 18446744073709551616 = b + z / 2251799813685248 := by omega
  rw [k1]
  generalize hd1 : b + z / 2251799813685248 = d1
  have m1 : 0 ≤ d1 ∧ d1 ≤ 2251799813685248 := by omega
  have n1 : 0 ≤ d1 / 2251799813685248 ∧ d1 / 2251799813685248 ≤ 1 := by omega
  have k2 : (c + d1 / 2251799813685248) % 18446744073709551616 = c + d1 / 2251799813685248 := by omega
  rw [k2]
  generalize hd2 : c + d1 / 2251799813685248 = d2
  have m2 : 0 ≤ d2 ∧ d2 ≤ 2251799813685248 := by omega
  have n2 : 0 ≤ d2 / 2251799813685248 ∧ d2 / 2251799813685248 ≤ 1 := by omega
  have k3 : (d + d2 / 2251799813685248) % 18446744073709551616 = d + d2 / 2251799813685248 := by omega
  rw [k3]
  generalize hd3 : d + d2 / 2251799813685248 = d3
  have m3 : 0 ≤ d3 ∧ d3 ≤ 2251799813685248 := by omega
  have n3 : 0 ≤ d3 / 2251799813685248 ∧ d3 / 2251799813685248 ≤ 1 := by omega
  have k4 : (e + d3 / 2251799813685248) % 18446744073709551616 = e + d3 / 2251799813685248 := by omega
  rw [k4]
  generalize hd4 : e + d3 / 2251799813685248 = d4
  have m4 : 0 ≤ d4 ∧ d4 ≤ 2251799813685249 := by omega
  rw [mk_eq (x := z) (by omega) (by omega), mk_eq (x := d1) (by omega) (by omega), mk_eq (x := d2) (by omega) (by omega), mk_eq (x := d3) (by omega) (by omega), mk_eq (x := d4) (by omega) (by omega)]
  have q1 : d4 / 2251799813685248 = 1 := by omega
  refine ⟨by simp only [L5.lt]; omega, ?_⟩
  simp only [L5.val, p]; omega

/-- The digits of a number, modulo p. -/
def E (n : Int) : L5 := digits (n % p)

theorem E_lt (n : Int) : (E n).lt 2251799813685248 := digits_lt _
theorem p_pos : (0 : Int) < p := by decide
theorem E_val (n : Int) : (E n).val = n % p := by
  have h0 := Int.emod_nonneg n (b := p) (by decide)
  have h1 := Int.emod_lt_of_pos n p_pos
  unfold E
  rw [digits_val h0 (by simp only [p] at *; omega)]
theorem E_congr {m n : Int} (h : m % p = n % p) : E m = E n := by unfold E; rw [h]
theorem E_mod (n : Int) : E (n % p) = E n := E_congr (Int.emod_emod_of_dvd n (Int.dvd_refl p))

theorem carriedX_spec {l : L5} (h : l.lt 9223372036854775808) : carriedX l = E l.val := by
  obtain ⟨q1, v1, _, _, a1, b1, c1, d1, e1⟩ := crr_spec h
  obtain ⟨q2, v2, a2, b2, c2, d2, e2⟩ := crr_spec2 a1 b1 c1 d1 e1
  obtain ⟨v3, a3, b3, c3, d3, e3, f3⟩ := crl_spec a2 b2 c2 d2 e2
  unfold carriedX
  simp only
  have hv : l.val % p = (crl (crr (crr l))).val % p := by
    rw [v1, v2, v3]
    rw [Int.add_mul_emod_self_left, Int.add_mul_emod_self_left]
  generalize crl (crr (crr l)) = r at *
  have hE : E l.val = digits (r.val % p) := by unfold E; rw [hv]
  rw [hE]
  clear v1 v2 v3 hv hE a1 b1 c1 d1 e1 a2 b2 c2 d2 e2 h
  split
  · rename_i hc
    have hge : p ≤ r.val := by
      rw [sh_eq] at hc
      simp only [L5.val, p]
      rcases hc with hc | ⟨g1, g2, g3, g4, g5⟩
      · have : 1 ≤ r.e / 2251799813685248 := by omega
        omega
      · omega
    obtain ⟨s1, s2⟩ := lastSub_spec a3 b3 c3 d3 e3 hge f3
    rw [digits_of s1, s2]
    congr 1
    have : (r.val - p) % p = r.val - p := Int.emod_eq_of_lt (by omega) (by simp only [p] at *; omega)
    rw [← this, Int.sub_emod_right]
  · rename_i hc
    rw [sh_eq] at hc
    have he : r.e < 2251799813685248 := by
      have : ¬ r.e / 2251799813685248 > 0 := fun h => hc (.inl h)
      omega
    have hlt : r.val < p := by
      have hc2 : ¬ (r.b = 2251799813685247 ∧ r.a ≥ 2251799813685229 ∧ r.c = 2251799813685247 ∧ r.d = 2251799813685247 ∧ r.e = 2251799813685247) := fun h => hc (.inr h)
      simp only [L5.val, p]
      omega
    have h0 : 0 ≤ r.val := by simp only [L5.val]; omega
    rw [Int.emod_eq_of_lt h0 hlt]
    exact digits_of ⟨a3, b3, c3, d3, e3.1, he⟩

/-! ### sums, differences -/
def addL (x y : L5) : L5 := carriedX ⟨aw x.a y.a, aw x.b y.b, aw x.c y.c, aw x.d y.d, aw x.e y.e⟩
def subL (x y : L5) : L5 := carriedX ⟨aw x.a (sw (mw 2 2251799813685229) y.a), aw x.b (sw (mw 2 2251799813685247) y.b), aw x.c (sw (mw 2 2251799813685247) y.c), aw x.d (sw (mw 2 2251799813685247) y.d), aw x.e (sw (mw 2 2251799813685247) y.e)⟩
def negL (y : L5) : L5 := carriedX ⟨sw (mw 2 2251799813685229) y.a, sw (mw 2 2251799813685247) y.b, sw (mw 2 2251799813685247) y.c, sw (mw 2 2251799813685247) y.d, sw (mw 2 2251799813685247) y.e⟩

theorem addL_spec {x y : L5} (hx : x.lt 2251799813685248) (hy : y.lt 2251799813685248) : addL x y = E (x.val + y.val) := by
  unfold addL
  simp only [aw_eq]
  simp only [L5.lt] at hx hy
  rw [carriedX_spec (by simp only [L5.lt]; omega)]
  congr 1
  simp only [L5.val]; omega
theorem two_mw : mw 2 2251799813685229 = 4503599627370458 ∧ mw 2 2251799813685247 = 4503599627370494 := by decide
theorem subL_spec {x y : L5} (hx : x.lt 2251799813685248) (hy : y.lt 2251799813685248) : subL x y = E (x.val - y.val) := by
  unfold subL
  simp only [aw_eq, sw_eq, two_mw.1, two_mw.2]
  simp only [L5.lt] at hx hy
  rw [carriedX_spec (by simp only [L5.lt]; omega)]
  apply E_congr
  rw [show (x.val - y.val) % p = (x.val - y.val + p * 2) % p by rw [Int.add_mul_emod_self_left]]
  congr 1
  simp only [L5.val, p]; omega
theorem negL_spec {y : L5} (hy : y.lt 2251799813685248) : negL y = E (- y.val) := by
  unfold negL
  simp only [sw_eq, two_mw.1, two_mw.2]
  simp only [L5.lt] at hy
  rw [carriedX_spec (by simp only [L5.lt]; omega)]
  apply E_congr
  rw [show (- y.val) % p = (- y.val + p * 2) % p by rw [Int.add_mul_emod_self_left]]
  congr 1
  simp only [L5.val, p]; omega

theorem addL_E (m n : Int) : addL (E m) (E n) = E (m + n) := by
  rw [addL_spec (E_lt m) (E_lt n), E_val, E_val]; exact E_congr (by rw [← Int.add_emod])
theorem subL_E (m n : Int) : subL (E m) (E n) = E (m - n) := by
  rw [subL_spec (E_lt m) (E_lt n), E_val, E_val]; exact E_congr (by rw [← Int.sub_emod])
theorem negL_E (n : Int) : negL (E n) = E (- n) := by
  rw [negL_spec (E_lt n), E_val]
  apply E_congr
  rw [← Int.zero_sub, ← Int.zero_sub n, Int.sub_emod, Int.emod_emod_of_dvd n (Int.dvd_refl p), ← Int.sub_emod]
end Go.Fld
