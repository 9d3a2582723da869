/- Numbers modulo p, the document's answer: drawing, sums, the opposite. -/
import Derived.Test.YtbfmneknabhlcaaRfH
import Derived.Test.YtbfmneknabhlcaaFldA
set_option linter.unusedVariables false
open Go Go.Sx Go.Fld Go.Fc Go.Proofs Go.Dg
namespace Go.Rf
/-! ### Any -/
def ofB (f : Nat → Int) (m : Nat) (o : Nat → Int) : Nat → Int := fun q => if q < m then f (2 * q) + 256 * f (2 * q + 1) else o q
def spec21 : Sx.Spec := fun x => match x with
  | ([.p 0 0 0, .p 1 0 0, .p 2 0 0, .v (.int .i64 i)], [(0, .rows [.int .u8 f] 32 false), (1, .rows [.int .u32 r] 16 false), (2, .rows [.int .u64 o] 16 false)]) =>
    some (.req (i = 0 ∧ isB f) (.ret (.exit 0, view21 16 f r (ofB f 16 o))))
  | _ => none
def L21 : LoopC := ⟨3, C21, spec21⟩
noncomputable abbrev E21 : Env := envL Try.prog T21 Try.f21.ntmps [6, 12, 18, 23] 0 RG2 [L21]
abbrev iz {α : Type} (i : Int) (k : R α) : R α := .req (0 ≤ i ∧ i < 32) (.req (i.toNat < 32) k)
theorem round21 (i : Int) (f r o : Nat → Int) : round E21 C21 (loopAt Try.f21 0) (view21 i f r o) =
    .br (decide (i < 16)) (iz (w64 (2 * i)) (iz (w64 (w64 (2 * i) + 1)) (ix i (.ret (.normal, view21 (w64 (i + 1)) f r
      (fun q => if q = i.toNat then iOr .u64 (wu (f (w64 (2 * i)).toNat)) (iShl .u64 (wu (f (w64 (w64 (2 * i) + 1)).toNat)) 8) else o q))))))
      (.ret (.exit 0, view21 i f r o)) := by kernel_rfl
theorem loop21 : LoopCOK E21 L21 (loopAt Try.f21 0) := by
  intro x r Q hx hr
  simp only [L21, spec21] at hx
  split at hx
  · rename_i i f r o
    cases hx
    obtain ⟨⟨rfl, hf⟩, hQ⟩ := hr
    refine ⟨17, ?_⟩
    have key := rounds_for (step := round E21 C21 (loopAt Try.f21 0)) (Q := Q) (fun i => view21 i f r (ofB f i o)) 16 0 (fun i _ hi K hK => ?_) ?_
    · have e0 : ofB f 0 o = o := by funext q; simp [ofB]
      rw [e0] at key
      exact key
    · rw [round21]
      refine ⟨fun _ => ?_, fun h => by simp at h; omega⟩
      have hti : ((i : Int)).toNat = i := by omega
      have w1 : w64 (2 * (i : Int)) = 2 * (i : Int) := wrap64 (by omega) (by omega)
      have w2 : w64 (2 * (i : Int) + 1) = 2 * (i : Int) + 1 := wrap64 (by omega) (by omega)
      have w3 : w64 ((i : Int) + 1) = (i : Int) + 1 := wrap64 (by omega) (by omega)
      rw [w1, w2, w3]
      refine ⟨⟨by omega, by omega⟩, by omega, ⟨by omega, by omega⟩, by omega, ⟨by omega, by omega⟩, by omega, ?_⟩
      have b1 := hf (2 * i) (by omega)
      have b2 := hf (2 * i + 1) (by omega)
      have t1 : (2 * (i : Int)).toNat = 2 * i := by omega
      have t2 : (2 * (i : Int) + 1).toNat = 2 * i + 1 := by omega
      rw [hti, t1, t2, or64 b1.1 b1.2 b2.1 b2.2]
      have : (fun q => if q = i then f (2 * i) + 256 * f (2 * i + 1) else ofB f i o q) = ofB f (i + 1) o := by
        funext q
        unfold ofB
        by_cases h1 : q = i
        · subst h1; simp
        · by_cases h2 : q < i
          · rw [if_neg h1, if_pos h2, if_pos (by omega)]
          · rw [if_neg h1, if_neg h2, if_neg (by omega)]
      rw [this]
      exact hK
    · rw [round21]
      exact ⟨fun h => by simp at h, fun _ => hQ⟩
  · exact nomatch hx
def clr (f : Nat → Int) : Nat → Int := fun q => if q = 15 then iAnd .u64 (ofB f 16 (fun _ => 0) 15) 32767 else ofB f 16 (fun _ => 0) q
theorem val21 (f : Nat → Int) : evalVal E21 Try.f21 [.rows [.int .u8 f] 32] =
    .req (0 = (0 : Int) ∧ isB f) (.req (15 < 16) (.req (15 < 16) (.req (0 + 16 ≤ 16) (.req (isU (clr f)) (.req (0 = 0) (.ret (.rows [.int .u32 (dig 65536 (V (clr f) % p))] 16))))))) := by kernel_rfl
theorem and64' {n : Int} (h0 : 0 ≤ n) (h1 : n < 18446744073709551616) : iAnd .u64 n 32767 = n % 32768 := by
  obtain ⟨k, rfl⟩ := Int.eq_ofNat_of_zero_le h0
  have := iAnd_nat64 k 32767 (by omega) (by decide)
  rw [show (32767 : Int) = ((32767 : Nat) : Int) from rfl, this, show (32767 : Nat) = 2 ^ 15 - 1 from rfl, Nat.and_two_pow_sub_one_eq_mod]
  omega
theorem ofB_range {f : Nat → Int} (hf : isB f) {q : Nat} (hq : q < 16) : 0 ≤ ofB f 16 (fun _ => 0) q ∧ ofB f 16 (fun _ => 0) q < 65536 := by
  have b1 := hf (2 * q) (by omega)
  have b2 := hf (2 * q + 1) (by omega)
  simp only [ofB, if_pos hq]; omega
theorem V_clr {f : Nat → Int} (hf : isB f) : V (clr f) = anyF f := by
  obtain ⟨h1, h2⟩ := ofB_range hf (q := 15) (by omega)
  have e1 : sm 65536 (clr f) 15 = sm 65536 (fun q => f (2 * q) + 256 * f (2 * q + 1)) 15 := sm_congr fun q hq => by
    simp only [clr, if_neg (show ¬ q = 15 by omega), ofB, if_pos (show q < 16 by omega)]
  have e2 : clr f 15 = (f 30 + 256 * f 31) % 32768 := by
    simp only [clr, if_true]
    rw [and64' h1 (by omega)]
    rfl
  have e3 : sm 256 f 32 = sm 256 f 30 + (f 30 + 256 * f 31) * 65536 ^ 15 := by
    have a : sm 256 f 32 = sm 256 f 30 + f 30 * 256 ^ 30 + f 31 * 256 ^ 31 := rfl
    have b : (256 : Int) ^ 30 = 65536 ^ 15 := by decide +kernel
    have c : (256 : Int) ^ 31 = 256 * 65536 ^ 15 := by decide +kernel
    rw [a, b, c]; grind
  obtain ⟨r0, r1⟩ := sm_lt (b := 256) (t := f) (by omega) (m := 30) fun q hq => hf q (by omega)
  have b30 : (256 : Int) ^ 30 = 1766847064778384329583297500742918515827483896875618958121606201292619776 := by decide +kernel
  have b15 : (65536 : Int) ^ 15 = 1766847064778384329583297500742918515827483896875618958121606201292619776 := by decide +kernel
  show sm 65536 (clr f) 15 + clr f 15 * 65536 ^ 15 = _
  rw [e1, e2, sm_two f 15]
  unfold anyF
  rw [e3, b15]
  rw [b30] at r1
  show sm 256 f 30 + _ = _
  omega
theorem p21 {f : Nat → Int} (hf : isB f) : PureOK Try.prog 21 [X32 f] (D (anyF f % p)) := by
  have hU : isU (clr f) := fun q hq => by
    obtain ⟨h1, h2⟩ := ofB_range hf hq
    unfold clr
    split
    · rename_i h
      subst h
      rw [and64' h1 (by omega)]; omega
    · omega
  rw [← V_clr hf]
  refine pure_of_envL mixed (t := T21) t21_ok (fn := Try.f21) (by kernel_rfl) (by kernel_rfl) rfl [6, 12, 18, 23] RG2 [L21] (told_one (by kernel_rfl) loop21) ⟨trivial, trivial⟩ trivial ?_
  show (evalVal E21 Try.f21 [.rows [.int .u8 f] 32]).holds _
  rw [val21]
  exact ⟨⟨rfl, hf⟩, by omega, by omega, by omega, hU, rfl, rfl⟩
/-! ### Add -/
def su (f g : Nat → Int) (m : Nat) (o : Nat → Int) : Nat → Int := fun q => if q < m then f q + g q else o q
def spec30 : Sx.Spec := fun x => match x with
  | ([.p 0 0 0, .p 1 0 0, .p 2 0 0, .p 3 0 0, .v (.int .i64 i)], [(0, .rows [.int .u32 f] 16 false), (1, .rows [.int .u32 g] 16 false), (2, .rows [.int .u32 r] 16 false), (3, .rows [.int .u64 o] 16 false)]) =>
    some (.req (i = 0 ∧ isD f ∧ isD g) (.ret (.exit 0, view30 16 f g r (su f g 16 o))))
  | _ => none
def L30 : LoopC := ⟨3, C30, spec30⟩
noncomputable abbrev E30 : Env := envL Try.prog T21 Try.f30.ntmps [8, 13, 17, 21] 0 RG2 [L30]
theorem round30 (i : Int) (f g r o : Nat → Int) : round E30 C30 (loopAt Try.f30 0) (view30 i f g r o) =
    .br (decide (i < 16)) (ix i (ix i (ix i (.ret (.normal, view30 (w64 (i + 1)) f g r (fun q => if q = i.toNat then wu (wu (f i.toNat) + wu (g i.toNat)) else o q))))))
      (.ret (.exit 0, view30 i f g r o)) := by kernel_rfl
theorem loop30 : LoopCOK E30 L30 (loopAt Try.f30 0) := by
  intro x r Q hx hr
  simp only [L30, spec30] at hx
  split at hx
  · rename_i i f g r o
    cases hx
    obtain ⟨⟨rfl, hf, hg⟩, hQ⟩ := hr
    refine ⟨17, ?_⟩
    have key := rounds_for (step := round E30 C30 (loopAt Try.f30 0)) (Q := Q) (fun i => view30 i f g r (su f g i o)) 16 0 (fun i _ hi K hK => ?_) ?_
    · have e0 : su f g 0 o = o := by funext q; simp [su]
      rw [e0] at key
      exact key
    · rw [round30]
      refine ⟨fun _ => ?_, fun h => by simp at h; omega⟩
      have hti : ((i : Int)).toNat = i := by omega
      have w3 : w64 ((i : Int) + 1) = (i : Int) + 1 := wrap64 (by omega) (by omega)
      rw [w3]
      refine ⟨⟨by omega, by omega⟩, by omega, ⟨by omega, by omega⟩, by omega, ⟨by omega, by omega⟩, by omega, ?_⟩
      obtain ⟨d1, d2⟩ := hf i (by omega)
      obtain ⟨d3, d4⟩ := hg i (by omega)
      have u1 : wu (f i) = f i := wrapu d1 (by omega)
      have u2 : wu (g i) = g i := wrapu d3 (by omega)
      have u3 : wu (f i + g i) = f i + g i := wrapu (by omega) (by omega)
      rw [hti, u1, u2, u3]
      have : (fun q => if q = i then f i + g i else su f g i o q) = su f g (i + 1) o := by
        funext q
        unfold su
        by_cases h1 : q = i
        · subst h1; simp
        · by_cases h2 : q < i
          · rw [if_neg h1, if_pos h2, if_pos (by omega)]
          · rw [if_neg h1, if_neg h2, if_neg (by omega)]
      rw [this]
      exact hK
    · rw [round30]
      exact ⟨fun h => by simp at h, fun _ => hQ⟩
  · exact nomatch hx
theorem val30 (f g : Nat → Int) : evalVal E30 Try.f30 [.rows [.int .u32 f] 16, .rows [.int .u32 g] 16] =
    .req (0 = (0 : Int) ∧ isD f ∧ isD g) (.req (0 + 16 ≤ 16) (.req (isU (su f g 16 fun _ => 0)) (.req (0 = 0) (.ret (.rows [.int .u32 (dig 65536 (V (su f g 16 fun _ => 0) % p))] 16))))) := by kernel_rfl
theorem p30 {f g : Nat → Int} (hf : isD f) (hg : isD g) : PureOK Try.prog 30 [.rows [.int .u32 f] 16, .rows [.int .u32 g] 16] (D ((V f + V g) % p)) := by
  have hV : V (su f g 16 fun _ => 0) = V f + V g := by
    have : V (su f g 16 fun _ => 0) = sm 65536 (fun q => f q + g q) 16 := sm_congr fun q hq => by simp only [su, if_pos hq]
    rw [this, sm_add]; rfl
  have hU : isU (su f g 16 fun _ => 0) := fun q hq => by
    obtain ⟨d1, d2⟩ := hf q hq
    obtain ⟨d3, d4⟩ := hg q hq
    simp only [su, if_pos hq]; omega
  refine pure_of_envL mixed (t := T21) t21_ok (fn := Try.f30) (by kernel_rfl) (by kernel_rfl) rfl [8, 13, 17, 21] RG2 [L30] (told_one (by kernel_rfl) loop30) ⟨trivial, trivial, trivial⟩ trivial ?_
  rw [val30, hV]
  exact ⟨⟨rfl, hf, hg⟩, by omega, hU, rfl, rfl⟩
/-! ### Neg, Sub -/
def zall (f : Nat → Int) : Nat → Nat → Bool
  | 0, _ => true
  | k + 1, i => f i == 0 && zall f k (i + 1)
theorem val34 (f : Nat → Int) : evalVal (envL Try.prog T39 Try.f34.ntmps [5] 0 RG []) Try.f34 [.rows [.int .u32 f] 16] =
    .req (0 + 16 ≤ 16) (.br (zall f 16 0) (.req (0 + 16 ≤ 16) (.req (0 = 0) (.ret (.rows [.int .u32 f] 16))))
      (.req (0 + 16 ≤ 16) (.req (isD (dig 65536 p) ∧ isD f) (.req (0 = 0) (.ret (.rows [.int .u32 (dig 65536 (V (dig 65536 p) - V f))] 16)))))) := by kernel_rfl
theorem zall_iff (f : Nat → Int) : ∀ k i, zall f k i = true ↔ ∀ q, i ≤ q → q < i + k → f q = 0
  | 0, i => by simp [zall]; intro q h1 h2; omega
  | k + 1, i => by
    simp only [zall, Bool.and_eq_true, beq_iff_eq, zall_iff f k (i + 1)]
    constructor
    · rintro ⟨h1, h2⟩ q h3 h4
      by_cases h : q = i
      · subst h; exact h1
      · exact h2 q (by omega) (by omega)
    · intro h; exact ⟨h i (by omega) (by omega), fun q h3 h4 => h q (by omega) (by omega)⟩
theorem sm_zero {f : Nat → Int} : ∀ {m : Nat}, (∀ q, q < m → f q = 0) → sm 65536 f m = 0
  | 0, _ => rfl
  | m + 1, h => by rw [sm, sm_zero fun q hq => h q (by omega), h m (by omega)]; simp
theorem zall_V {f : Nat → Int} (hf : isD f) : zall f 16 0 = true ↔ V f = 0 := by
  rw [zall_iff]
  constructor
  · intro h; exact sm_zero fun q hq => h q (by omega) (by omega)
  · intro h q _ hq
    rw [dig_V hf (by omega), h]; simp [dig]
theorem p34 {f : Nat → Int} (hf : isD f) (hp : V f < p) : PureOK Try.prog 34 [.rows [.int .u32 f] 16] (D ((-V f) % p)) := by
  obtain ⟨v0, _⟩ := V_range hf
  refine PureOK.rows_congr (g := if V f = 0 then f else dig 65536 (V (dig 65536 p) - V f)) ?_ (fun q hq => ?_)
  · refine pure_of_envL mixed (t := T39) t39_ok (fn := Try.f34) (by kernel_rfl) (by kernel_rfl) rfl [5] RG [] told_none ⟨trivial, trivial⟩ trivial ?_
    rw [val34]
    refine ⟨by omega, fun h => ⟨by omega, rfl, ?_⟩, fun h => ⟨by omega, ⟨isD_dig _, hf⟩, rfl, ?_⟩⟩
    · rw [if_pos ((zall_V hf).1 h)]; rfl
    · rw [if_neg fun h2 => by rw [(zall_V hf).2 h2] at h; exact nomatch h]; rfl
  · split
    · rename_i h
      rw [dig_V hf hq, h]; rfl
    · rename_i h
      rw [V_p]
      congr 1
      unfold p at *; omega
end Go.Rf
