/- Numbers modulo p, the document's answer: bytes, and from bytes. -/
import Derived.Test.YtbfmneknabhlcaaRfD0
set_option linter.unusedVariables false
open Go Go.Sx Go.Fld Go.Fc Go.Proofs Go.Dg
namespace Go.Rf
theorem or_shl {x y : Nat} (hx : x < 256) : x ||| y * 256 = x + 256 * y := by
  have := Nat.shiftLeft_add_eq_or_of_lt (b := x) (i := 8) hx y
  rw [Nat.shiftLeft_eq] at this
  rw [Nat.or_comm, ← this]; omega
theorem or32 {x y : Int} (h0 : 0 ≤ x) (h1 : x < 256) (h2 : 0 ≤ y) (h3 : y < 256) : iOr .u32 (w32 x) (iShl .u32 (w32 y) 8) = x + 256 * y := by
  obtain ⟨a, rfl⟩ := Int.eq_ofNat_of_zero_le h0
  obtain ⟨b, rfl⟩ := Int.eq_ofNat_of_zero_le h2
  have e1 : w32 (a : Int) = a := wrap32 (by omega) (by omega)
  have e2 : w32 (b : Int) = b := wrap32 (by omega) (by omega)
  have e3 : iShl .u32 (b : Int) 8 = ((b * 256 : Nat) : Int) := by
    show IntKind.u32.wrap ((b : Int) * 2 ^ (min (8 : Int).toNat 32)) = _
    have : (2 : Int) ^ (min (8 : Int).toNat 32) = 256 := rfl
    rw [this, IntKind.wrap_u32]; omega
  rw [e1, e2, e3]
  unfold iOr
  rw [IntKind.wrap_u32]
  have e : ((BitVec.ofInt IntKind.u32.bits (a : Int)) ||| (BitVec.ofInt IntKind.u32.bits ((b * 256 : Nat) : Int))).toNat = a ||| b * 256 := by
    rw [BitVec.toNat_or, BitVec.ofInt_natCast, BitVec.ofInt_natCast, BitVec.toNat_ofNat, BitVec.toNat_ofNat, Nat.mod_eq_of_lt (show a < 2 ^ IntKind.u32.bits by simp only [IntKind.bits]; omega), Nat.mod_eq_of_lt (show b * 256 < 2 ^ IntKind.u32.bits by simp only [IntKind.bits]; omega)]
  rw [e, or_shl (by omega)]; omega
theorem or64 {x y : Int} (h0 : 0 ≤ x) (h1 : x < 256) (h2 : 0 ≤ y) (h3 : y < 256) : iOr .u64 (wu x) (iShl .u64 (wu y) 8) = x + 256 * y := by
  obtain ⟨a, rfl⟩ := Int.eq_ofNat_of_zero_le h0
  obtain ⟨b, rfl⟩ := Int.eq_ofNat_of_zero_le h2
  have e1 : wu (a : Int) = a := wrapu (by omega) (by omega)
  have e2 : wu (b : Int) = b := wrapu (by omega) (by omega)
  have e3 : iShl .u64 (b : Int) 8 = ((b * 256 : Nat) : Int) := by
    show IntKind.u64.wrap ((b : Int) * 2 ^ (min (8 : Int).toNat 64)) = _
    have : (2 : Int) ^ (min (8 : Int).toNat 64) = 256 := rfl
    rw [this, IntKind.wrap_u64]; omega
  rw [e1, e2, e3, iOr_nat64 a (b * 256) (by omega) (by omega), or_shl (by omega)]; omega
/-! ### digits of two bytes -/
theorem pow_two' (j : Nat) : (256 : Int) ^ (2 * j) = 65536 ^ j := by rw [Int.pow_mul]; rfl
theorem dig_even (n : Int) (j : Nat) : dig 256 n (2 * j) = dig 65536 n j % 256 := by
  unfold dig; rw [pow_two']; omega
theorem dig_odd (n : Int) (j : Nat) : dig 256 n (2 * j + 1) = dig 65536 n j / 256 := by
  unfold dig
  rw [Int.pow_succ, pow_two', ← Int.ediv_ediv_of_nonneg (Int.le_of_lt (pw (by omega) j))]; omega
theorem sm_two (f : Nat → Int) : ∀ m, sm 65536 (fun q => f (2 * q) + 256 * f (2 * q + 1)) m = sm 256 f (2 * m)
  | 0 => rfl
  | m + 1 => by
    show sm 65536 _ m + (f (2 * m) + 256 * f (2 * m + 1)) * 65536 ^ m = sm 256 f (2 * m) + f (2 * m) * 256 ^ (2 * m) + f (2 * m + 1) * 256 ^ (2 * m + 1)
    rw [sm_two f m, Int.pow_succ, pow_two']; grind
/-! ### Bytes -/
def byF (f : Nat → Int) (k : Nat) : Int := if k % 2 = 0 then IntKind.u8.wrap (f (k / 2)) else IntKind.u8.wrap (iShr .u32 (f (k / 2)) 8)
def byL (f : Nat → Int) : List UInt8 := (List.range 32).map fun k => UInt8.ofNat (byF f k).toNat
def byteT (f : Nat → Int) : Nat → Nat → R AV
  | 0, _ => .ret (.str (byL f))
  | k + 1, i => .req (i < 16) (.req (i < 16) (byteT f k (i + 1)))
theorem val14 (f : Nat → Int) : evalVal (envL Try.prog [] Try.f14.ntmps [] 0 RG []) Try.f14 [.rows [.int .u32 f] 16] = byteT f 16 0 := by kernel_rfl
theorem p14 {f : Nat → Int} (hf : isD f) : PureOK Try.prog 14 [.rows [.int .u32 f] 16] (.str (txt (V f))) := by
  refine pure_of_envL mixed (t := []) (fun x h => nomatch h) (fn := Try.f14) (by kernel_rfl) (by kernel_rfl) rfl [] RG [] told_none ⟨trivial, trivial⟩ trivial ?_
  rw [val14]
  have e : byL f = txt (V f) := by
    unfold byL txt
    refine List.map_congr_left fun k hk => ?_
    have hk := List.mem_range.1 hk
    obtain ⟨h1, h2⟩ := hf (k / 2) (by omega)
    have hd := dig_V hf (q := k / 2) (by omega)
    show UInt8.ofNat (byF f k).toNat = UInt8.ofNat (dig 256 (V f) k).toNat
    have : byF f k = dig 256 (V f) k := by
      unfold byF
      split
      · rename_i h
        have := dig_even (V f) (k / 2)
        rw [show 2 * (k / 2) = k by omega, ← hd] at this
        rw [this, IntKind.wrap_u8]
      · rename_i h
        have := dig_odd (V f) (k / 2)
        rw [show 2 * (k / 2) + 1 = k by omega, ← hd] at this
        have e8 : iShr .u32 (f (k / 2)) 8 = f (k / 2) / 256 := by
          show (f (k / 2)).fdiv (2 ^ (min (8 : Int).toNat 32)) = _
          rw [Int.fdiv_eq_ediv_of_nonneg _ (by decide)]; rfl
        rw [this, e8, IntKind.wrap_u8]; omega
    rw [this]
  have : ∀ k i, k + i ≤ 16 → (byteT f k i).holds (· = .str (txt (V f))) := by
    intro k
    induction k with
    | zero => intro i _; simp only [byteT, R.holds, e]
    | succ k ih => intro i h; exact ⟨by omega, by omega, ih (i + 1) (by omega)⟩
  exact this 16 0 (by omega)
/-! ### Of -/
def ofD (s : List UInt8) (m : Nat) (o : Nat → Int) : Nat → Int := fun q => if q < m then byt s (2 * q) + 256 * byt s (2 * q + 1) else o q
def spec12 : Sx.Spec := fun x => match x with
  | ([.str s, .p 0 0 0, .p 1 0 0, .v (.int .i64 i)], [(0, .rows [.int .u32 r] 16 false), (1, .rows [.int .u32 o] 16 false)]) =>
    some (.req (i = 0 ∧ s.length = 32) (.ret (.exit 0, view12 s 16 r (ofD s 16 o))))
  | _ => none
def L12 : LoopC := ⟨5, C12, spec12⟩
noncomputable abbrev E12 : Env := envL Try.prog T39 Try.f12.ntmps [8, 11, 18, 24, 28, 32] 0 RG [L12]
theorem round12 (s : List UInt8) (i : Int) (r o : Nat → Int) : round E12 C12 (loopAt Try.f12 0) (view12 s i r o) =
    .br (decide (i < 16)) (.req (0 ≤ w64 (2 * i) ∧ w64 (2 * i) < s.length) (.req (0 ≤ w64 (w64 (2 * i) + 1) ∧ w64 (w64 (2 * i) + 1) < s.length) (ix i (.ret (.normal, view12 s (w64 (i + 1)) r
      (fun q => if q = i.toNat then iOr .u32 (w32 (s.getD (w64 (2 * i)).toNat 0).toNat) (iShl .u32 (w32 (s.getD (w64 (w64 (2 * i) + 1)).toNat 0).toNat) 8) else o q))))))
      (.ret (.exit 0, view12 s i r o)) := by kernel_rfl
theorem loop12 : LoopCOK E12 L12 (loopAt Try.f12 0) := by
  intro x r Q hx hr
  simp only [L12, spec12] at hx
  split at hx
  · rename_i s i r o
    cases hx
    obtain ⟨⟨rfl, hs⟩, hQ⟩ := hr
    refine ⟨17, ?_⟩
    have key := rounds_for (step := round E12 C12 (loopAt Try.f12 0)) (Q := Q) (fun i => view12 s i r (ofD s i o)) 16 0 (fun i _ hi K hK => ?_) ?_
    · have e0 : ofD s 0 o = o := by funext q; simp [ofD]
      rw [e0] at key
      exact key
    · rw [round12]
      refine ⟨fun _ => ?_, fun h => by simp at h; omega⟩
      have hti : ((i : Int)).toNat = i := by omega
      have w1 : w64 (2 * (i : Int)) = 2 * (i : Int) := wrap64 (by omega) (by omega)
      have w2 : w64 (2 * (i : Int) + 1) = 2 * (i : Int) + 1 := wrap64 (by omega) (by omega)
      have w3 : w64 ((i : Int) + 1) = (i : Int) + 1 := wrap64 (by omega) (by omega)
      rw [w1, w2, w3]
      refine ⟨⟨by omega, by omega⟩, ⟨by omega, by omega⟩, ⟨by omega, by omega⟩, by omega, ?_⟩
      have b1 := byt_range s (2 * i)
      have b2 := byt_range s (2 * i + 1)
      have t1 : (2 * (i : Int)).toNat = 2 * i := by omega
      have t2 : (2 * (i : Int) + 1).toNat = 2 * i + 1 := by omega
      have e : iOr .u32 (w32 (s.getD (2 * i) 0).toNat) (iShl .u32 (w32 (s.getD (2 * i + 1) 0).toNat) 8) = byt s (2 * i) + 256 * byt s (2 * i + 1) := or32 b1.1 b1.2 b2.1 b2.2
      rw [hti, t1, t2, e]
      have : (fun q => if q = i then byt s (2 * i) + 256 * byt s (2 * i + 1) else ofD s i o q) = ofD s (i + 1) o := by
        funext q
        unfold ofD
        by_cases h1 : q = i
        · subst h1; simp
        · by_cases h2 : q < i
          · rw [if_neg h1, if_pos h2, if_pos (by omega)]
          · rw [if_neg h1, if_neg h2, if_neg (by omega)]
      rw [this]
      exact hK
    · rw [round12]
      exact ⟨fun h => by simp at h, fun _ => hQ⟩
  · exact nomatch hx
theorem isD_of (s : List UInt8) (o : Nat → Int) : isD (ofD s 16 o) := fun q hq => by
  have b1 := byt_range s (2 * q)
  have b2 := byt_range s (2 * q + 1)
  simp only [ofD, if_pos hq]; omega
theorem V_of (s : List UInt8) (o : Nat → Int) : V (ofD s 16 o) = leI s := by
  have : V (ofD s 16 o) = sm 65536 (fun q => byt s (2 * q) + 256 * byt s (2 * q + 1)) 16 := sm_congr fun q hq => by simp only [ofD, if_pos hq]
  rw [this, sm_two (byt s) 16]; rfl
def ofR (s : List UInt8) : AV := .t [D (if isEl s then leI s else 0), .b (isEl s)]
def zeroF : Nat → Int := nthI (List.replicate 16 (.i .u32 0))
theorem val12 (s : List UInt8) : evalVal E12 Try.f12 [.str s] =
    .br ((s.length : Int) != 32) (.req (0 = 0) (.ret (.t [.rows [.int .u32 zeroF] 16, .b false])))
      (.req (0 = (0 : Int) ∧ s.length = 32) (.req (0 + 16 ≤ 16) (.req (isD (ofD s 16 fun _ => 0) ∧ isD (dig 65536 p)) (.br (!decide (V (ofD s 16 fun _ => 0) < V (dig 65536 p)))
        (.req (0 = 0) (.ret (.t [.rows [.int .u32 zeroF] 16, .b false])))
        (.req (0 + 16 ≤ 16) (.req (0 = 0) (.ret (.t [.rows [.int .u32 (ofD s 16 fun _ => 0)] 16, .b true])))))))) := by kernel_rfl
end Go.Rf
