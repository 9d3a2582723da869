/- Numbers modulo p, the program: the number of bytes: contract. -/
import Derived.Test.YtbfmneknabhlcaaFldO2
set_option linter.unusedVariables false
set_option linter.unusedSimpArgs false
open Go Go.Sx Go.Fld Go.Proofs Go.Dg
namespace Go.Fc
def byt (s : List UInt8) (i : Nat) : Int := ((s.getD i 0).toNat : Int)
theorem byt_range (s : List UInt8) (i : Nat) : 0 ≤ byt s i ∧ byt s i < 256 := by
  have := (s.getD i 0).toNat_lt; unfold byt; omega
/-- The number of 32 bytes. -/
def leI (s : List UInt8) : Int := sm 256 (byt s) 32
theorem leI_range (s : List UInt8) : 0 ≤ leI s ∧ leI s < 256 ^ 32 := sm_lt (by decide) fun q _ => byt_range s q
theorem leI_dig (s : List UInt8) {i : Nat} (hi : i < 32) : leI s / 256 ^ i % 256 = byt s i := dig_sm (by decide) (fun q _ => byt_range s q) hi
theorem and_one8 {n : Int} (h0 : 0 ≤ n) (h1 : n < 256) : iAnd .u8 n 1 = n % 2 := by
  obtain ⟨k, rfl⟩ := Int.eq_ofNat_of_zero_le h0
  have := iAnd_nat8 k 1 (by omega) (by omega)
  rw [show (1 : Int) = ((1 : Nat) : Int) from rfl, this, Nat.and_one_is_mod]; omega
theorem pow8_split (i : Nat) : (2 : Int) ^ i = 256 ^ (i / 8) * 2 ^ (i % 8) := by
  rw [show (256 : Int) = 2 ^ 8 from rfl, ← Int.pow_mul, ← Int.pow_add]; congr 1; omega
theorem sbit_eq (s : List UInt8) {i : Nat} (hi : i < 256) : sbit s i = leI s / 2 ^ i % 2 * 2 ^ (i % 51) := by
  have hb := byt_range s (i / 8)
  have hd := leI_dig s (i := i / 8) (by omega)
  unfold sbit
  show iShl .u64 (IntKind.u64.wrap (iAnd .u8 (iShr .u8 (byt s (i / 8)) ((i % 8 : Nat) : Int)) 1)) ((i % 51 : Nat) : Int) = _
  rw [iShr_eq .u8 _ (by show i % 8 ≤ 8; omega)]
  have hp : (0 : Int) < 2 ^ (i % 8) := Int.pow_pos (by decide)
  have h2 : byt s (i / 8) / 2 ^ (i % 8) ≤ byt s (i / 8) := Int.ediv_le_self _ hb.1
  rw [and_one8 (Int.ediv_nonneg hb.1 (Int.le_of_lt hp)) (by omega)]
  have hbit : byt s (i / 8) / 2 ^ (i % 8) % 2 = leI s / 2 ^ i % 2 := by
    rw [← hd, show (256 : Int) = 2 ^ 8 from rfl, mod_div_mod (Nat.mod_lt _ (by omega)), Int.ediv_ediv_of_nonneg (Int.le_of_lt (Int.pow_pos (Int.pow_pos (by decide))))]
    congr 2
    rw [pow8_split i]
    rfl
  rw [hbit]
  have hc : leI s / 2 ^ i % 2 = 0 ∨ leI s / 2 ^ i % 2 = 1 := by omega
  unfold iShl
  rw [Int.toNat_natCast, Nat.min_eq_left (by show i % 51 ≤ 64; omega), IntKind.wrap_u64, IntKind.wrap_u64]
  have hle : (2 : Int) ^ (i % 51) ≤ 2 ^ 51 := by
    have := Nat.pow_le_pow_right (n := 2) (by omega) (show i % 51 ≤ 51 by omega)
    have h2 : ((2 ^ (i % 51) : Nat) : Int) ≤ ((2 ^ 51 : Nat) : Int) := by omega
    rwa [Int.natCast_pow, Int.natCast_pow] at h2
  have h51 : (2 : Int) ^ 51 = 2251799813685248 := rfl
  have hp2 : (0 : Int) < 2 ^ (i % 51) := Int.pow_pos (by decide)
  rcases hc with e | e <;> rw [e]
  · simp
  · rw [show (1 : Int) % 18446744073709551616 = 1 from rfl, Int.one_mul]; exact Int.emod_eq_of_lt (by omega) (by omega)
theorem mod_next (X : Int) (t : Nat) : X % 2 ^ (t + 1) = X % 2 ^ t + X / 2 ^ t % 2 * 2 ^ t := by
  have hp : (0 : Int) < 2 ^ t := Int.pow_pos (by decide)
  have h1 := Int.emod_add_mul_ediv X (2 ^ t)
  have h2 := Int.emod_add_mul_ediv X (2 ^ (t + 1))
  have h3 : X / 2 ^ (t + 1) = X / 2 ^ t / 2 := by rw [Int.pow_succ, Int.ediv_ediv_of_nonneg (Int.le_of_lt hp)]
  have h4 := Int.emod_add_mul_ediv (X / 2 ^ t) 2
  rw [h3, Int.pow_succ] at h2
  rw [Int.pow_succ]
  grind
theorem dg_eq (s : List UInt8) {q : Nat} (hq : q < 5) : ∀ t, t ≤ 51 → dg s q t = leI s / 2 ^ (51 * q) % 2 ^ t
  | 0, _ => by simp [dg]
  | t + 1, ht => by
    have h0 : 0 ≤ leI s / 2 ^ (51 * q) % 2 ^ t := Int.emod_nonneg _ (Int.ne_of_gt (Int.pow_pos (by decide)))
    have h1 : leI s / 2 ^ (51 * q) % 2 ^ t < 2 ^ t := Int.emod_lt_of_pos _ (Int.pow_pos (by decide))
    have hc : leI s / 2 ^ (51 * q + t) % 2 = 0 ∨ leI s / 2 ^ (51 * q + t) % 2 = 1 := by omega
    have hm : (51 * q + t) % 51 = t := by omega
    rw [dg, dg_eq s hq t (by omega), sbit_eq s (by omega), hm, or_add64 (by omega) h0 h1 hc, mod_next, Int.ediv_ediv_of_nonneg (Int.le_of_lt (Int.pow_pos (by decide))), ← Int.pow_add]
theorem dgs_eq {s : List UInt8} (h : leI s < 57896044618658097711785492504343953926634992332820282019728792003956564819968) : dgs s = digits (leI s) := by
  have h0 := (leI_range s).1
  unfold dgs digits
  rw [dg_eq s (by omega) 51 (by omega), dg_eq s (by omega) 51 (by omega), dg_eq s (by omega) 51 (by omega), dg_eq s (by omega) 51 (by omega), dg_eq s (by omega) 51 (by omega)]
  simp only [show (2 : Int) ^ (51 * 0) = 1 from rfl, show (2 : Int) ^ (51 * 1) = 2251799813685248 from rfl, show (2 : Int) ^ (51 * 2) = 5070602400912917605986812821504 from rfl, show (2 : Int) ^ (51 * 3) = 11417981541647679048466287755595961091061972992 from rfl,
    show (2 : Int) ^ (51 * 4) = 25711008708143844408671393477458601640355247900524685364822016 from rfl, show (2 : Int) ^ 51 = 2251799813685248 from rfl, Int.ediv_one]
/-- Is a text an element's? -/
def isEl (s : List UInt8) : Bool := decide (s.length = 32) && decide (leI s < p)
def ofV (s : List UInt8) : AV := .t [FE (if isEl s then leI s else 0), .b (isEl s)]
theorem zero_FE : L5.av ⟨0, 0, 0, 0, 0⟩ = FE 0 := rfl
theorem high_byte (s : List UInt8) : byt s 31 ≥ 128 ↔ ¬ leI s < 57896044618658097711785492504343953926634992332820282019728792003956564819968 := by
  have h := leI_dig s (i := 31) (by omega)
  have hr := leI_range s
  have e1 : (256 : Int) ^ 31 = 452312848583266388373324160190187140051835877600158453279131187530910662656 := rfl
  have e2 : (256 : Int) ^ 32 = 115792089237316195423570985008687907853269984665640564039457584007913129639936 := rfl
  rw [e1] at h
  rw [e2] at hr
  omega
theorem ofEnd_holds {s : List UInt8} (hs : s.length = 32) : (ofEnd s).holds (· = ofV s) := by
  unfold ofEnd
  simp only [R.holds]
  have hb := high_byte s
  have h0 := (leI_range s).1
  refine ⟨by omega, fun h => ?_, fun h => ?_⟩
  · have h : byt s 31 ≥ 128 := of_decide_eq_true h
    have hn : isEl s = false := by
      unfold isEl
      rw [decide_eq_false (p := leI s < p) (by have := hb.1 h; unfold p; omega)]; simp
    rw [zero_FE, ofV, hn]; rfl
  · have h : ¬ byt s 31 ≥ 128 := of_decide_eq_false h
    have hlt : leI s < 57896044618658097711785492504343953926634992332820282019728792003956564819968 := by
      rcases Int.lt_or_le (leI s) 57896044618658097711785492504343953926634992332820282019728792003956564819968 with h' | h'
      · exact h'
      · exact absurd (hb.2 (by omega)) h
    rw [dgs_eq hlt]
    have hv := digits_val h0 hlt
    have hl := digits_lt (leI s)
    generalize hN : leI s = N at *
    have good : N < p → AV.t [(digits N).av, .b true] = ofV s := fun hp => by
      have he : isEl s = true := by unfold isEl; rw [hN]; simp [hs, hp]
      have := FE_of hl (by rw [hv]; exact hp)
      rw [hv] at this
      rw [ofV, he, hN, this]; rfl
    have bad : ¬ N < p → AV.t [FE 0, .b false] = ofV s := fun hp => by
      have he : isEl s = false := by unfold isEl; rw [hN]; simp [hp]
      rw [ofV, he]; rfl
    have iff : ((digits N).a ≥ 2251799813685229 ∧ (digits N).b = 2251799813685247 ∧ (digits N).c = 2251799813685247 ∧ (digits N).d = 2251799813685247 ∧ (digits N).e = 2251799813685247) ↔ ¬ N < p := by
      simp only [L5.val] at hv
      obtain ⟨⟨a0, a1⟩, ⟨b0, b1⟩, ⟨c0, c1⟩, ⟨d0, d1⟩, ⟨e0, e1⟩⟩ := hl
      generalize (digits N).a = a at *
      generalize (digits N).b = b at *
      generalize (digits N).c = c at *
      generalize (digits N).d = d at *
      generalize (digits N).e = e at *
      unfold p
      omega
    rw [zero_FE]
    refine ⟨fun h1 => ⟨fun h2 => ?_, fun h2 => ?_⟩, fun h1 => ?_⟩
    · simp only [Bool.and_eq_true, beq_iff_eq, and_true] at h2
      exact bad (iff.1 ⟨of_decide_eq_true h1, h2⟩)
    · refine good (Decidable.byContradiction fun hp => ?_)
      have := iff.2 hp
      simp [this.2] at h2
    · refine good (Decidable.byContradiction fun hp => ?_)
      exact of_decide_eq_false h1 (iff.2 hp).1
theorem reqsT_holds {s : List UInt8} (hs : s.length = 32) {z : R AV} {Q : AV → Prop} (hz : z.holds Q) : ∀ k i, k + i ≤ 255 → (reqsT s z k i).holds Q
  | 0, _, _ => hz
  | k + 1, i, h => ⟨by omega, reqsT_holds hs hz k (i + 1) (by omega)⟩
theorem p11 (s : List UInt8) : PureOK Try.prog 11 [.str s] (ofV s) := by
  refine pure_of_env mixed (t := [(36, e36)]) (all_cons e36_ok all_nil) (fn := Try.f11) (by kernel_rfl) (by kernel_rfl) rfl [9, 21, 35, 37, 43, 52] ⟨trivial, trivial⟩ ⟨all5 _, trivial, trivial⟩ ?_
  rw [t11]
  refine ⟨fun h => ?_, fun h => ?_⟩
  · have hn : ¬ s.length = 32 := by intro e; simp [e] at h
    have he : isEl s = false := by unfold isEl; simp [hn]
    rw [zero_FE, ofV, he]; rfl
  · have hs : s.length = 32 := by simp only [bne_eq_false_iff_eq] at h; omega
    exact reqsT_holds hs (ofEnd_holds hs) 255 0 (by omega)
end Go.Fc
