/- Products of digits. -/
import Derived.Test.YtbfmneknabhlcaaFldQ
set_option linter.unusedSimpArgs false
namespace Go.Fld
open Go.Sx

def add64X (x y c : Int) : AV := .t [.i .u64 (((x.toNat + y.toNat + c.toNat) % 18446744073709551616 : Nat) : Int), .i .u64 (((x.toNat + y.toNat + c.toNat) / 18446744073709551616 : Nat) : Int)]
def m32 (x : Int) : Int := iAnd .u64 x 4294967295
def s32 (x : Int) : Int := iShr .u64 x 32
def mul64H (x y : Int) : Int :=
  let x0 := m32 x
  let x1 := s32 x
  let y0 := m32 y
  let y1 := s32 y
  let t := aw (mw x1 y0) (s32 (mw x0 y0))
  aw (aw (mw x1 y1) (s32 t)) (s32 (aw (m32 t) (mw x0 y1)))
def mul64X (x y : Int) : AV := .t [.i .u64 (mul64H x y), .i .u64 (mw x y)]

def rng (x : Int) : Prop := 0 ≤ x ∧ x < 18446744073709551616
theorem m32_eq {x : Int} (h : rng x) : m32 x = x % 4294967296 := by
  obtain ⟨h0, h1⟩ := h
  obtain ⟨n, rfl⟩ := Int.eq_ofNat_of_zero_le h0
  have := iAnd_nat64 n 4294967295 (by omega) (by decide)
  unfold m32
  rw [show (4294967295 : Int) = ((4294967295 : Nat) : Int) from rfl, this, show (4294967295 : Nat) = 2 ^ 32 - 1 from rfl, Nat.and_two_pow_sub_one_eq_mod]
  omega
theorem s32_eq (x : Int) : s32 x = x / 4294967296 := by
  unfold s32 iShr
  rw [Int.fdiv_eq_ediv_of_nonneg _ (by decide)]
  rfl

theorem mul_bound {a b : Int} {n m : Int} (ha : 0 ≤ a) (ha' : a ≤ n) (hb : 0 ≤ b) (hb' : b ≤ m) : 0 ≤ a * b ∧ a * b ≤ n * m :=
  ⟨Int.mul_nonneg ha hb, Int.mul_le_mul ha' hb' hb (Int.le_trans ha ha')⟩

theorem mul64H_eq {x y : Int} (hx : rng x) (hy : rng y) : mul64H x y = x * y / 18446744073709551616 := by
  unfold mul64H
  simp only [m32_eq hx, m32_eq hy, s32_eq, aw_eq, mw_eq]
  obtain ⟨hx0, hx1⟩ := hx
  obtain ⟨hy0, hy1⟩ := hy
  have ex : x = x / 4294967296 * 4294967296 + x % 4294967296 := by omega
  have ey : y = y / 4294967296 * 4294967296 + y % 4294967296 := by omega
  have bx0 : 0 ≤ x % 4294967296 ∧ x % 4294967296 ≤ 4294967295 := by omega
  have bx1 : 0 ≤ x / 4294967296 ∧ x / 4294967296 ≤ 4294967295 := by omega
  have by0 : 0 ≤ y % 4294967296 ∧ y % 4294967296 ≤ 4294967295 := by omega
  have by1 : 0 ≤ y / 4294967296 ∧ y / 4294967296 ≤ 4294967295 := by omega
  generalize x / 4294967296 = x1 at *
  generalize x % 4294967296 = x0 at *
  generalize y / 4294967296 = y1 at *
  generalize y % 4294967296 = y0 at *
  have hA := mul_bound bx1.1 bx1.2 by1.1 by1.2
  have hB := mul_bound bx1.1 bx1.2 by0.1 by0.2
  have hC := mul_bound bx0.1 bx0.2 by1.1 by1.2
  have hD := mul_bound bx0.1 bx0.2 by0.1 by0.2
  have hxy : x * y = x1 * y1 * 18446744073709551616 + (x1 * y0 + x0 * y1) * 4294967296 + x0 * y0 := by
    rw [ex, ey]
    rw [Int.add_mul, Int.mul_add, Int.mul_add, Int.add_mul]
    have e1 : x1 * 4294967296 * (y1 * 4294967296) = x1 * y1 * 18446744073709551616 := by
      rw [Int.mul_assoc, Int.mul_left_comm 4294967296 y1, ← Int.mul_assoc x1, show (4294967296 * 4294967296 : Int) = 18446744073709551616 from rfl]
    have e2 : x1 * 4294967296 * y0 = x1 * y0 * 4294967296 := by rw [Int.mul_assoc, Int.mul_comm 4294967296 y0, ← Int.mul_assoc]
    have e3 : x0 * (y1 * 4294967296) = x0 * y1 * 4294967296 := by rw [← Int.mul_assoc]
    rw [e1, e2, e3]
    omega
  rw [hxy]
  generalize x1 * y1 = A at *
  generalize x1 * y0 = B at *
  generalize x0 * y1 = C at *
  generalize x0 * y0 = D at *
  clear hxy ex ey bx0 bx1 by0 by1 hx0 hx1 hy0 hy1
  have kD : D % 18446744073709551616 = D := by omega
  have kB : B % 18446744073709551616 = B := by omega
  have kC : C % 18446744073709551616 = C := by omega
  have kA : A % 18446744073709551616 = A := by omega
  rw [kD, kB, kC, kA]
  have kt : (B + D / 4294967296) % 18446744073709551616 = B + D / 4294967296 := by omega
  rw [kt]
  have ht : rng (B + D / 4294967296) := ⟨by omega, by omega⟩
  rw [m32_eq ht]
  omega

def wideAV (n : Int) : AV := .a [.i .u64 (n / 18446744073709551616), .i .u64 (n % 18446744073709551616)]
/-- A sum of a product and a wide number, as the code does it. -/
def plusT (h l a b : Int) : R AV :=
  .req ((0 : Int).toNat ≤ 1) (.req (((((l.toNat + (mw a b).toNat + (0 : Int).toNat) / 18446744073709551616 : Nat) : Int)).toNat ≤ 1)
    (.ret (.a [.i .u64 (((h.toNat + (mul64H a b).toNat + ((((l.toNat + (mw a b).toNat + (0 : Int).toNat) / 18446744073709551616 : Nat) : Int)).toNat) % 18446744073709551616 : Nat) : Int),
      .i .u64 (((l.toNat + (mw a b).toNat + (0 : Int).toNat) % 18446744073709551616 : Nat) : Int)])))

theorem plusT_holds {h l a b : Int} (hh : rng h) (hl : rng l) (ha : rng a) (hb : rng b) :
    (plusT h l a b).holds (· = wideAV ((h * 18446744073709551616 + l + a * b) % 340282366920938463463374607431768211456)) := by
  have hm := mul64H_eq ha hb
  have hml := mw_eq a b
  have hp := mul_bound ha.1 (Int.le_sub_one_of_lt ha.2) hb.1 (Int.le_sub_one_of_lt hb.2)
  unfold plusT
  simp only [R.holds, hm, hml]
  generalize a * b = N at *
  obtain ⟨h0, h1⟩ := hh
  obtain ⟨l0, l1⟩ := hl
  refine ⟨by decide, ?_, ?_⟩
  · omega
  · unfold wideAV
    have e1 : ((((l.toNat + (N % 18446744073709551616).toNat + (0 : Int).toNat) % 18446744073709551616 : Nat) : Int)) = (h * 18446744073709551616 + l + N) % 340282366920938463463374607431768211456 % 18446744073709551616 := by omega
    have e2 : (((h.toNat + (N / 18446744073709551616).toNat + ((((l.toNat + (N % 18446744073709551616).toNat + (0 : Int).toNat) / 18446744073709551616 : Nat) : Int)).toNat) % 18446744073709551616 : Nat) : Int) =
        (h * 18446744073709551616 + l + N) % 340282366920938463463374607431768211456 / 18446744073709551616 := by omega
    rw [e1, e2]

/-- 'plus' as an entry tells it. -/
def plusR (w : AV) (a b : Int) : R AV :=
  match w with
  | .a [.v (.int .u64 h), .v (.int .u64 l)] => .req (rng h ∧ rng l ∧ rng a ∧ rng b) (.ret (wideAV ((h * 18446744073709551616 + l + a * b) % 340282366920938463463374607431768211456)))
  | _ => .bad "wide"

def aboveX (h l : Int) : Int := iOr .u64 (iShl .u64 h 13) (iShr .u64 l 51)

theorem aboveX_eq {n : Int} (h0 : 0 ≤ n) (h1 : n < 1298074214633706907132624082305024) : aboveX (n / 18446744073709551616) (n % 18446744073709551616) = n / 2251799813685248 := by
  obtain ⟨k, rfl⟩ := Int.eq_ofNat_of_zero_le h0
  unfold aboveX
  have e1 : iShl .u64 ((k : Int) / 18446744073709551616) 13 = ((k / 18446744073709551616 * 8192 : Nat) : Int) := by
    unfold iShl
    rw [IntKind.wrap_u64]
    have : (2 : Int) ^ (min (13 : Int).toNat IntKind.u64.bits) = 8192 := by decide
    rw [this]; omega
  have e2 : iShr .u64 ((k : Int) % 18446744073709551616) 51 = ((k % 18446744073709551616 / 2251799813685248 : Nat) : Int) := by
    unfold iShr
    rw [Int.fdiv_eq_ediv_of_nonneg _ (by decide)]
    have : (2 : Int) ^ (min (51 : Int).toNat IntKind.u64.bits) = 2251799813685248 := by decide
    rw [this]; omega
  rw [e1, e2, iOr_nat64 _ _ (by omega) (by omega)]
  have h3 : k % 18446744073709551616 / 2251799813685248 < 2 ^ 13 := by omega
  have := Nat.shiftLeft_add_eq_or_of_lt h3 (k / 18446744073709551616)
  rw [Nat.shiftLeft_eq] at this
  rw [show (8192 : Nat) = 2 ^ 13 from rfl, ← this]
  omega

def lowOf : AV → Int
  | .a [_, .v (.int _ l)] => l
  | _ => 0
def aboveOf : AV → Int
  | .a [.v (.int _ h), .v (.int _ l)] => aboveX h l
  | _ => 0

def chain (a0 b0 a1 b1 a2 b2 a3 b3 a4 b4 : Int) : R AV :=
  (plusR (.a [.i .u64 0, .i .u64 0]) a0 b0).bind fun w => (plusR w a1 b1).bind fun w => (plusR w a2 b2).bind fun w => (plusR w a3 b3).bind fun w => plusR w a4 b4

theorem chain_holds {a0 b0 a1 b1 a2 b2 a3 b3 a4 b4 : Int} (h0 : rng a0) (k0 : rng b0) (h1 : rng a1) (k1 : rng b1) (h2 : rng a2) (k2 : rng b2) (h3 : rng a3) (k3 : rng b3) (h4 : rng a4) (k4 : rng b4)
    (hs : a0 * b0 + a1 * b1 + a2 * b2 + a3 * b3 + a4 * b4 < 340282366920938463463374607431768211456) :
    (chain a0 b0 a1 b1 a2 b2 a3 b3 a4 b4).holds (· = wideAV (a0 * b0 + a1 * b1 + a2 * b2 + a3 * b3 + a4 * b4)) := by
  have p0 := Int.mul_nonneg h0.1 k0.1
  have p1 := Int.mul_nonneg h1.1 k1.1
  have p2 := Int.mul_nonneg h2.1 k2.1
  have p3 := Int.mul_nonneg h3.1 k3.1
  have p4 := Int.mul_nonneg h4.1 k4.1
  simp only [chain, plusR, R.bind, R.holds, wideAV, h0, k0, h1, k1, h2, k2, h3, k3, h4, k4, and_true, true_and]
  generalize a0 * b0 = n0 at *
  generalize a1 * b1 = n1 at *
  generalize a2 * b2 = n2 at *
  generalize a3 * b3 = n3 at *
  generalize a4 * b4 = n4 at *
  have z : ∀ n : Int, n / 18446744073709551616 * 18446744073709551616 + n % 18446744073709551616 = n := fun n => by omega
  simp only [z]
  have r1 : (0 * 18446744073709551616 + 0 + n0) % 340282366920938463463374607431768211456 = n0 := by omega
  rw [r1]
  have r2 : (n0 + n1) % 340282366920938463463374607431768211456 = n0 + n1 := by omega
  rw [r2]
  have r3 : (n0 + n1 + n2) % 340282366920938463463374607431768211456 = n0 + n1 + n2 := by omega
  rw [r3]
  have r4 : (n0 + n1 + n2 + n3) % 340282366920938463463374607431768211456 = n0 + n1 + n2 + n3 := by omega
  rw [r4]
  have r5 : (n0 + n1 + n2 + n3 + n4) % 340282366920938463463374607431768211456 = n0 + n1 + n2 + n3 + n4 := by omega
  rw [r5]
  simp only [rng, and_true]
  omega

def mulT (x y : L5) : R AV :=
  let c1 := mw 19 y.b
  let c2 := mw 19 y.c
  let c3 := mw 19 y.d
  let c4 := mw 19 y.e
  (chain x.a y.a x.b c4 x.c c3 x.d c2 x.e c1).bind fun t0 => (chain x.a y.b x.b y.a x.c c4 x.d c3 x.e c2).bind fun t1 => (chain x.a y.c x.b y.b x.c y.a x.d c4 x.e c3).bind fun t2 =>
    (chain x.a y.d x.b y.c x.c y.b x.d y.a x.e c4).bind fun t3 => (chain x.a y.e x.b y.d x.c y.c x.d y.b x.e y.a).bind fun t4 =>
      .ret (carriedX ⟨aw (mk (lowOf t0)) (mw 19 (aboveOf t4)), aw (mk (lowOf t1)) (aboveOf t0), aw (mk (lowOf t2)) (aboveOf t1), aw (mk (lowOf t3)) (aboveOf t2), aw (mk (lowOf t4)) (aboveOf t3)⟩).av

theorem mulT_holds {x y : L5} (hx : x.lt 2251799813685248) (hy : y.lt 2251799813685248) : (mulT x y).holds (· = (E (x.val * y.val)).av) := by
  obtain ⟨a, b, c, d, e⟩ := x
  obtain ⟨a', b', c', d', e'⟩ := y
  simp only [L5.lt] at hx hy
  obtain ⟨⟨a0, a1⟩, ⟨b0, b1⟩, ⟨c0, c1⟩, ⟨d0, d1⟩, ⟨e0, e1⟩⟩ := hx
  obtain ⟨⟨f0, f1⟩, ⟨g0, g1⟩, ⟨h0, h1⟩, ⟨i0, i1⟩, ⟨j0, j1⟩⟩ := hy
  unfold mulT
  simp only
  have m1 : mw 19 b' = 19 * b' := by rw [mw_eq]; omega
  have m2 : mw 19 c' = 19 * c' := by rw [mw_eq]; omega
  have m3 : mw 19 d' = 19 * d' := by rw [mw_eq]; omega
  have m4 : mw 19 e' = 19 * e' := by rw [mw_eq]; omega
  rw [m1, m2, m3, m4]
  have B : ∀ {u v : Int}, 0 ≤ u → u < 2251799813685248 → 0 ≤ v → v < 2251799813685248 → 0 ≤ u * v ∧ u * v ≤ 5070602400912913102387185451009 := fun {u v} h1 h2 h3 h4 => by
    have := mul_bound (n := 2251799813685247) (m := 2251799813685247) h1 (by omega) h3 (by omega)
    omega
  have B19 : ∀ {u v : Int}, 0 ≤ u → u < 2251799813685248 → 0 ≤ v → v < 2251799813685248 → 0 ≤ u * (19 * v) ∧ u * (19 * v) ≤ 96341445617345348945356523569171 := fun {u v} h1 h2 h3 h4 => by
    have := B h1 h2 h3 h4
    rw [Int.mul_left_comm]
    omega
  have hid : (⟨a, b, c, d, e⟩ : L5).val * (⟨a', b', c', d', e'⟩ : L5).val = (a * a' + b * (19 * e') + c * (19 * d') + d * (19 * c') + e * (19 * b')) + 2251799813685248 * (a * b' + b * a' + c * (19 * e') + d * (19 * d') + e * (19 * c')) +
      5070602400912917605986812821504 * (a * c' + b * b' + c * a' + d * (19 * e') + e * (19 * d')) + 11417981541647679048466287755595961091061972992 * (a * d' + b * c' + c * b' + d * a' + e * (19 * e')) +
      25711008708143844408671393477458601640355247900524685364822016 * (a * e' + b * d' + c * c' + d * b' + e * a') +
      p * ((b * e' + c * d' + d * c' + e * b') + 2251799813685248 * (c * e' + d * d' + e * c') + 5070602400912917605986812821504 * (d * e' + e * d') + 11417981541647679048466287755595961091061972992 * (e * e')) := by
    simp only [L5.val, p]
    grind
  generalize ((b * e' + c * d' + d * c' + e * b') + 2251799813685248 * (c * e' + d * d' + e * c') + 5070602400912917605986812821504 * (d * e' + e * d') + 11417981541647679048466287755595961091061972992 * (e * e')) = q at hid
  generalize (⟨a, b, c, d, e⟩ : L5).val * (⟨a', b', c', d', e'⟩ : L5).val = M at hid ⊢
  have r : ∀ {u : Int}, 0 ≤ u → u < 2251799813685248 → rng u := fun h1 h2 => ⟨h1, by omega⟩
  have r19 : ∀ {u : Int}, 0 ≤ u → u < 2251799813685248 → rng (19 * u) := fun h1 h2 => ⟨by omega, by omega⟩
  have t0 := chain_holds (r a0 a1) (r f0 f1) (r b0 b1) (r19 j0 j1) (r c0 c1) (r19 i0 i1) (r d0 d1) (r19 h0 h1) (r e0 e1) (r19 g0 g1) (by
    have := B a0 a1 f0 f1; have := B19 b0 b1 j0 j1; have := B19 c0 c1 i0 i1; have := B19 d0 d1 h0 h1; have := B19 e0 e1 g0 g1; omega)
  have t1 := chain_holds (r a0 a1) (r g0 g1) (r b0 b1) (r f0 f1) (r c0 c1) (r19 j0 j1) (r d0 d1) (r19 i0 i1) (r e0 e1) (r19 h0 h1) (by
    have := B a0 a1 g0 g1; have := B b0 b1 f0 f1; have := B19 c0 c1 j0 j1; have := B19 d0 d1 i0 i1; have := B19 e0 e1 h0 h1; omega)
  have t2 := chain_holds (r a0 a1) (r h0 h1) (r b0 b1) (r g0 g1) (r c0 c1) (r f0 f1) (r d0 d1) (r19 j0 j1) (r e0 e1) (r19 i0 i1) (by
    have := B a0 a1 h0 h1; have := B b0 b1 g0 g1; have := B c0 c1 f0 f1; have := B19 d0 d1 j0 j1; have := B19 e0 e1 i0 i1; omega)
  have t3 := chain_holds (r a0 a1) (r i0 i1) (r b0 b1) (r h0 h1) (r c0 c1) (r g0 g1) (r d0 d1) (r f0 f1) (r e0 e1) (r19 j0 j1) (by
    have := B a0 a1 i0 i1; have := B b0 b1 h0 h1; have := B c0 c1 g0 g1; have := B d0 d1 f0 f1; have := B19 e0 e1 j0 j1; omega)
  have t4 := chain_holds (r a0 a1) (r j0 j1) (r b0 b1) (r i0 i1) (r c0 c1) (r h0 h1) (r d0 d1) (r g0 g1) (r e0 e1) (r f0 f1) (by
    have := B a0 a1 j0 j1; have := B b0 b1 i0 i1; have := B c0 c1 h0 h1; have := B d0 d1 g0 g1; have := B e0 e1 f0 f1; omega)
  have s0 : 0 ≤ a * a' + b * (19 * e') + c * (19 * d') + d * (19 * c') + e * (19 * b') ∧ a * a' + b * (19 * e') + c * (19 * d') + d * (19 * c') + e * (19 * b') ≤ 390436384870294308883813279727693 := by
    have := B a0 a1 f0 f1; have := B19 b0 b1 j0 j1; have := B19 c0 c1 i0 i1; have := B19 d0 d1 h0 h1; have := B19 e0 e1 g0 g1; omega
  have s1 : 0 ≤ a * b' + b * a' + c * (19 * e') + d * (19 * d') + e * (19 * c') ∧ a * b' + b * a' + c * (19 * e') + d * (19 * d') + e * (19 * c') ≤ 390436384870294308883813279727693 := by
    have := B a0 a1 g0 g1; have := B b0 b1 f0 f1; have := B19 c0 c1 j0 j1; have := B19 d0 d1 i0 i1; have := B19 e0 e1 h0 h1; omega
  have s2 : 0 ≤ a * c' + b * b' + c * a' + d * (19 * e') + e * (19 * d') ∧ a * c' + b * b' + c * a' + d * (19 * e') + e * (19 * d') ≤ 390436384870294308883813279727693 := by
    have := B a0 a1 h0 h1; have := B b0 b1 g0 g1; have := B c0 c1 f0 f1; have := B19 d0 d1 j0 j1; have := B19 e0 e1 i0 i1; omega
  have s3 : 0 ≤ a * d' + b * c' + c * b' + d * a' + e * (19 * e') ∧ a * d' + b * c' + c * b' + d * a' + e * (19 * e') ≤ 390436384870294308883813279727693 := by
    have := B a0 a1 i0 i1; have := B b0 b1 h0 h1; have := B c0 c1 g0 g1; have := B d0 d1 f0 f1; have := B19 e0 e1 j0 j1; omega
  have s4 : 0 ≤ a * e' + b * d' + c * c' + d * b' + e * a' ∧ a * e' + b * d' + c * c' + d * b' + e * a' ≤ 25353012004564565511935927255045 := by
    have := B a0 a1 j0 j1; have := B b0 b1 i0 i1; have := B c0 c1 h0 h1; have := B d0 d1 g0 g1; have := B e0 e1 f0 f1; omega
  generalize a * a' + b * (19 * e') + c * (19 * d') + d * (19 * c') + e * (19 * b') = T0 at *
  generalize a * b' + b * a' + c * (19 * e') + d * (19 * d') + e * (19 * c') = T1 at *
  generalize a * c' + b * b' + c * a' + d * (19 * e') + e * (19 * d') = T2 at *
  generalize a * d' + b * c' + c * b' + d * a' + e * (19 * e') = T3 at *
  generalize a * e' + b * d' + c * c' + d * b' + e * a' = T4 at *
  clear B B19 r r19 m1 m2 m3 m4
  rw [R.holds_bind]
  refine R.holds_mono (fun w0 hw0 => ?_) t0
  subst hw0
  rw [R.holds_bind]
  refine R.holds_mono (fun w1 hw1 => ?_) t1
  subst hw1
  rw [R.holds_bind]
  refine R.holds_mono (fun w2 hw2 => ?_) t2
  subst hw2
  rw [R.holds_bind]
  refine R.holds_mono (fun w3 hw3 => ?_) t3
  subst hw3
  rw [R.holds_bind]
  refine R.holds_mono (fun w4 hw4 => ?_) t4
  subst hw4
  simp only [R.holds, wideAV, lowOf, aboveOf]
  rw [aboveX_eq s0.1 (by omega), aboveX_eq s1.1 (by omega), aboveX_eq s2.1 (by omega), aboveX_eq s3.1 (by omega), aboveX_eq s4.1 (by omega)]
  simp only [mk_eq (Int.emod_nonneg _ (by decide)) (Int.emod_lt_of_pos _ (by decide)), aw_eq, mw_eq]
  congr 1
  have u0 : (T0 % 18446744073709551616 % 2251799813685248 + 19 * (T4 / 2251799813685248) % 18446744073709551616) % 18446744073709551616 = T0 % 2251799813685248 + 19 * (T4 / 2251799813685248) := by omega
  have u1 : (T1 % 18446744073709551616 % 2251799813685248 + T0 / 2251799813685248) % 18446744073709551616 = T1 % 2251799813685248 + T0 / 2251799813685248 := by omega
  have u2 : (T2 % 18446744073709551616 % 2251799813685248 + T1 / 2251799813685248) % 18446744073709551616 = T2 % 2251799813685248 + T1 / 2251799813685248 := by omega
  have u3 : (T3 % 18446744073709551616 % 2251799813685248 + T2 / 2251799813685248) % 18446744073709551616 = T3 % 2251799813685248 + T2 / 2251799813685248 := by omega
  have u4 : (T4 % 18446744073709551616 % 2251799813685248 + T3 / 2251799813685248) % 18446744073709551616 = T4 % 2251799813685248 + T3 / 2251799813685248 := by omega
  rw [u0, u1, u2, u3, u4]
  clear u0 u1 u2 u3 u4 t0 t1 t2 t3 t4
  rw [carriedX_spec (by simp only [L5.lt]; omega)]
  apply E_congr
  rw [hid, Int.add_mul_emod_self_left]
  have : (⟨T0 % 2251799813685248 + 19 * (T4 / 2251799813685248), T1 % 2251799813685248 + T0 / 2251799813685248, T2 % 2251799813685248 + T1 / 2251799813685248, T3 % 2251799813685248 + T2 / 2251799813685248,
      T4 % 2251799813685248 + T3 / 2251799813685248⟩ : L5).val + p * (T4 / 2251799813685248) = T0 + 2251799813685248 * T1 + 5070602400912917605986812821504 * T2 + 11417981541647679048466287755595961091061972992 * T3 +
      25711008708143844408671393477458601640355247900524685364822016 * T4 := by
    simp only [L5.val, p]; omega
  rw [← this, Int.add_mul_emod_self_left]
end Go.Fld
