/- Numbers modulo p, the document's answer: numbers of 16 digits. -/
import Derived.Test.YtbfmneknabhlcaaFldO3
set_option linter.unusedVariables false
open Go Go.Sx Go.Fld Go.Proofs Go.Dg
namespace Go.Rf
theorem mixed : Try.prog.follows .mixedOrders = true := by kernel_rfl
abbrev RG : List Nat := [30, 62]
abbrev rw (f : Nat → Int) : AObj := .rows [.int .u32 f] 16 false
abbrev B : Int := 65536
def isD (f : Nat → Int) : Prop := ∀ q, q < 16 → 0 ≤ f q ∧ f q < 65536
def V (f : Nat → Int) : Int := sm 65536 f 16
def D (n : Int) : AV := .rows [.int .u32 (dig 65536 n)] 16
theorem wrap64 {n : Int} (h1 : -9223372036854775808 ≤ n) (h2 : n < 9223372036854775808) : IntKind.i64.wrap n = n := by
  simp [IntKind.wrap, IntKind.signed, IntKind.bits]
  split <;> omega
theorem wrap32 {n : Int} (h1 : 0 ≤ n) (h2 : n < 4294967296) : IntKind.u32.wrap n = n := by
  rw [IntKind.wrap_u32]; omega
theorem wrapu {n : Int} (h1 : 0 ≤ n) (h2 : n < 18446744073709551616) : IntKind.u64.wrap n = n := by
  rw [IntKind.wrap_u64]; omega
theorem and32 {n : Int} (h0 : 0 ≤ n) (h1 : n < 4294967296) : iAnd .u32 n 65535 = n % 65536 := by
  obtain ⟨k, rfl⟩ := Int.eq_ofNat_of_zero_le h0
  unfold iAnd
  rw [IntKind.wrap_u32]
  have e : ((BitVec.ofInt IntKind.u32.bits (k : Int)) &&& (BitVec.ofInt IntKind.u32.bits (65535 : Int))).toNat = k &&& 65535 := by
    rw [BitVec.toNat_and, BitVec.ofInt_natCast, show (65535 : Int) = ((65535 : Nat) : Int) from rfl, BitVec.ofInt_natCast, BitVec.toNat_ofNat, BitVec.toNat_ofNat, Nat.mod_eq_of_lt (show k < 2 ^ IntKind.u32.bits by simp only [IntKind.bits]; omega), Nat.mod_eq_of_lt (by decide)]
  rw [e, show (65535 : Nat) = 2 ^ 16 - 1 from rfl, Nat.and_two_pow_sub_one_eq_mod]
  omega
theorem and64 {n : Int} (h0 : 0 ≤ n) (h1 : n < 18446744073709551616) : iAnd .u64 n 65535 = n % 65536 := by
  obtain ⟨k, rfl⟩ := Int.eq_ofNat_of_zero_le h0
  have := iAnd_nat64 k 65535 (by omega) (by decide)
  rw [show (65535 : Int) = ((65535 : Nat) : Int) from rfl, this, show (65535 : Nat) = 2 ^ 16 - 1 from rfl, Nat.and_two_pow_sub_one_eq_mod]
  omega
theorem shr32 (n : Int) : iShr .u32 n 16 = n / 65536 := by
  show n.fdiv (2 ^ (min (16 : Int).toNat 32)) = _
  rw [Int.fdiv_eq_ediv_of_nonneg _ (by decide)]; rfl
theorem shr64 (n : Int) : iShr .u64 n 16 = n / 65536 := by
  show n.fdiv (2 ^ (min (16 : Int).toNat 64)) = _
  rw [Int.fdiv_eq_ediv_of_nonneg _ (by decide)]; rfl
def ext (n : Int) (m : Nat) (f : Nat → Int) : Nat → Int := fun q => if q < m then dig 65536 n q else f q
theorem ext_zero (n : Int) (f : Nat → Int) : ext n 0 f = f := by funext q; simp [ext]
theorem ext_self (n : Int) (i : Nat) (f : Nat → Int) : ext n i f i = f i := by simp [ext]
theorem ext_succ (n : Int) (i : Nat) (f : Nat → Int) : (fun q => if q = i then dig 65536 n i else ext n i f q) = ext n (i + 1) f := by
  funext q
  simp only [ext]
  by_cases h1 : q = i
  · subst h1; simp
  · by_cases h2 : q < i
    · rw [if_neg h1, if_pos h2, if_pos (by omega)]
    · rw [if_neg h1, if_neg h2, if_neg (by omega)]
theorem isD_dig (n : Int) : isD (dig 65536 n) := fun q _ => dig_range (by omega) n q
theorem V_dig (n : Int) : V (dig 65536 n) = n % 65536 ^ 16 := sm_dig (by omega) n 16
theorem V_range {f : Nat → Int} (h : isD f) : 0 ≤ V f ∧ V f < 65536 ^ 16 := sm_lt (by omega) h
theorem isD_ext (m : Int) (o : Nat → Int) : isD (ext m 16 o) := fun q hq => by
  simp only [ext, hq, if_true]; exact dig_range (by omega) _ _
theorem V_ext (m : Int) (o : Nat → Int) : V (ext m 16 o) = m % 65536 ^ 16 := by
  rw [← V_dig]; exact sm_congr fun q hq => by simp [ext, hq]
/-- Digits are those of their number. -/
theorem dig_V {f : Nat → Int} (h : isD f) {q : Nat} (hq : q < 16) : f q = dig 65536 (V f) q := (dig_sm (by omega) h hq).symm

/-! ### minus -/
abbrev ix {α : Type} (i : Int) (k : R α) : R α := .req (0 ≤ i ∧ i < 16) (.req (i.toNat < 16) k)
abbrev w64 (n : Int) : Int := IntKind.i64.wrap n
abbrev w32 (n : Int) : Int := IntKind.u32.wrap n
def C48 : Cut := ⟨[2, 3, 4, 5, 6], [([2], 0), ([3], 1), ([4], 2)], 8⟩
def view48 (b i : Int) (f g r : Nat → Int) : View := ([.p 0 0 0, .p 1 0 0, .p 2 0 0, .i .u32 b, .i .i64 i], [(0, rw f), (1, rw g), (2, rw r)])
def spec48 : Sx.Spec := fun x => match x with
  | ([.p 0 0 0, .p 1 0 0, .p 2 0 0, .v (.int .u32 c), .v (.int .i64 i)], [(0, .rows [.int .u32 f] 16 false), (1, .rows [.int .u32 g] 16 false), (2, .rows [.int .u32 r] 16 false)]) =>
    some (.req (c = 0 ∧ i = 0 ∧ isD f ∧ isD g) (.ret (.exit 0, view48 (-((V f - V g) / 65536 ^ 16)) 16 (ext (V f - V g) 16 f) g r)))
  | _ => none
def L48 : LoopC := ⟨3, C48, spec48⟩
noncomputable abbrev E48 : Env := envL Try.prog [] Try.f48.ntmps [9, 13, 17, 25] 0 RG [L48]
theorem round48 (c i : Int) (f g r : Nat → Int) : round E48 C48 (loopAt Try.f48 0) (view48 c i f g r) =
    .br (decide (i < 16)) (ix i (ix i (ix i (.ret (.normal, view48 (w32 (1 - iShr .u32 (w32 (w32 (w32 (f i.toNat + 65536) - g i.toNat) - c)) 16)) (w64 (i + 1))
      (fun q => if q = i.toNat then iAnd .u32 (w32 (w32 (w32 (f i.toNat + 65536) - g i.toNat) - c)) 65535 else f q) g r)))))
      (.ret (.exit 0, view48 c i f g r)) := by kernel_rfl
theorem loop48 : LoopCOK E48 L48 (loopAt Try.f48 0) := by
  intro x r Q hx hr
  simp only [L48, spec48] at hx
  split at hx
  · rename_i c i f g r
    cases hx
    obtain ⟨⟨rfl, rfl, hf, hg⟩, hQ⟩ := hr
    refine ⟨17, ?_⟩
    have hs : ∀ m, sm 65536 (fun q => f q - g q) m = sm 65536 f m - sm 65536 g m := fun m => sm_sub f g m
    have key := rounds_for (step := round E48 C48 (loopAt Try.f48 0)) (Q := Q) (fun i => view48 (-(sm 65536 (fun q => f q - g q) i / 65536 ^ i)) i (ext (V f - V g) i f) g r) 16 0 (fun i _ hi K hK => ?_) ?_
    · have e1 : -(sm 65536 (fun q => f q - g q) 0 / 65536 ^ 0) = 0 := by simp [sm]
      rw [ext_zero, e1] at key
      exact key
    · rw [round48]
      refine ⟨fun _ => ?_, fun h => by simp at h; omega⟩
      have hti : ((i : Int)).toNat = i := by omega
      obtain ⟨d1, d2⟩ := hf i (by omega)
      obtain ⟨d3, d4⟩ := hg i (by omega)
      have e1 := carry_div (b := 65536) (by omega) (fun q => f q - g q) i
      have e2 : (f i - g i + sm 65536 (fun q => f q - g q) i / 65536 ^ i) % 65536 = dig 65536 (V f - V g) i := by
        have := digit' (b := 65536) (by omega) (fun q => f q - g q) (i := i) (n := 16) (by omega)
        rw [hs 16] at this
        exact this
      have hc : -1 ≤ sm 65536 (fun q => f q - g q) i / 65536 ^ i ∧ sm 65536 (fun q => f q - g q) i / 65536 ^ i ≤ 0 := by
        obtain ⟨a1, a2⟩ := sm_lt (b := 65536) (t := f) (by omega) (m := i) (fun q hq => hf q (by omega))
        obtain ⟨a3, a4⟩ := sm_lt (b := 65536) (t := g) (by omega) (m := i) (fun q hq => hg q (by omega))
        rw [hs]
        have hp := pw (b := 65536) (by omega) i
        exact ⟨Int.le_ediv_of_mul_le hp (by omega), Int.le_of_lt_add_one (Int.ediv_lt_of_lt_mul hp (by omega))⟩
      generalize hC : sm 65536 (fun q => f q - g q) i / 65536 ^ i = C at *
      refine ⟨⟨by omega, by omega⟩, by omega, ⟨by omega, by omega⟩, by omega, ⟨by omega, by omega⟩, by omega, ?_⟩
      have w1 : w32 (f i + 65536) = f i + 65536 := wrap32 (by omega) (by omega)
      have w2 : w32 (f i + 65536 - g i) = f i + 65536 - g i := wrap32 (by omega) (by omega)
      have w4 : w32 (f i + 65536 - g i - -C) = f i + 65536 - g i - -C := wrap32 (by omega) (by omega)
      have w3 : w64 ((i : Int) + 1) = (i : Int) + 1 := wrap64 (by omega) (by omega)
      simp only [hti, ext_self, w1, w2, w3, w4, shr32]
      have w5 : w32 (1 - (f i + 65536 - g i - -C) / 65536) = 1 - (f i + 65536 - g i - -C) / 65536 := wrap32 (by omega) (by omega)
      rw [and32 (by omega) (by omega), w5, show (f i + 65536 - g i - -C) % 65536 = dig 65536 (V f - V g) i by omega, ext_succ,
        show 1 - (f i + 65536 - g i - -C) / 65536 = -(sm 65536 (fun q => f q - g q) (i + 1) / 65536 ^ (i + 1)) by omega]
      exact hK
    · rw [round48]
      refine ⟨fun h => by simp at h, fun _ => ?_⟩
      rw [hs]
      exact hQ
  · exact nomatch hx
theorem val48 (f g : Nat → Int) : evalVal E48 Try.f48 [.rows [.int .u32 f] 16, .rows [.int .u32 g] 16] =
    .req (0 = (0 : Int) ∧ 0 = (0 : Int) ∧ isD f ∧ isD g) (.req (16 ≤ 16) (.req (0 = 0) (.ret (.rows [.int .u32 (ext (V f - V g) 16 f)] 16)))) := by kernel_rfl
theorem p48 {f g : Nat → Int} (hf : isD f) (hg : isD g) : PureOK Try.prog 48 [.rows [.int .u32 f] 16, .rows [.int .u32 g] 16] (D (V f - V g)) := by
  refine PureOK.rows_congr (g := ext (V f - V g) 16 f) ?_ (fun q hq => by simp [ext, hq])
  refine pure_of_envL mixed (t := []) (fun x h => nomatch h) (fn := Try.f48) (by kernel_rfl) (by kernel_rfl) rfl [9, 13, 17, 25] RG [L48] (told_one (by kernel_rfl) loop48) ⟨trivial, trivial, trivial⟩ trivial ?_
  rw [val48]
  exact ⟨⟨rfl, rfl, hf, hg⟩, by omega, rfl, rfl⟩

/-! ### less -/
def belowT (f g : Nat → Int) : Nat → R AV
  | 0 => .ret (.b false)
  | n + 1 => .req (n < 16) (.req (n < 16) (.br (f n != g n) (.req (n < 16) (.req (n < 16) (.ret (.b (decide (f n < g n)))))) (belowT f g n)))
theorem val37 (f g : Nat → Int) : evalVal (envL Try.prog [] Try.f37.ntmps [16] 0 RG []) Try.f37 [.rows [.int .u32 f] 16, .rows [.int .u32 g] 16] = belowT f g 16 := by kernel_rfl
theorem belowT_holds {f g : Nat → Int} (hf : isD f) (hg : isD g) : ∀ n, n ≤ 16 → (belowT f g n).holds (· = .b (decide (sm 65536 f n < sm 65536 g n)))
  | 0, _ => by simp [belowT, R.holds, sm]
  | n + 1, hn => by
    have ih := belowT_holds hf hg n (by omega)
    obtain ⟨d1, d2⟩ := hf n (by omega)
    obtain ⟨d3, d4⟩ := hg n (by omega)
    obtain ⟨a1, a2⟩ := sm_lt (b := 65536) (t := f) (by omega) (m := n) (fun q hq => hf q (by omega))
    obtain ⟨a3, a4⟩ := sm_lt (b := 65536) (t := g) (by omega) (m := n) (fun q hq => hg q (by omega))
    have hp := pw (b := 65536) (by omega) n
    refine ⟨by omega, by omega, fun h => ⟨by omega, by omega, ?_⟩, fun h => ?_⟩
    · simp only [bne_iff_ne, ne_eq] at h
      have : (f n < g n) ↔ (sm 65536 f (n + 1) < sm 65536 g (n + 1)) := by
        simp only [sm]
        constructor
        · intro hlt
          have : f n * 65536 ^ n + 65536 ^ n ≤ g n * 65536 ^ n := by
            have := Int.mul_le_mul_of_nonneg_right (show f n + 1 ≤ g n by omega) (Int.le_of_lt hp)
            rw [Int.add_mul, Int.one_mul] at this; exact this
          omega
        · intro hlt
          by_cases h1 : f n < g n
          · exact h1
          · have : g n * 65536 ^ n + 65536 ^ n ≤ f n * 65536 ^ n := by
              have := Int.mul_le_mul_of_nonneg_right (show g n + 1 ≤ f n by omega) (Int.le_of_lt hp)
              rw [Int.add_mul, Int.one_mul] at this; exact this
            omega
      simp only [R.holds, this]
    · have he : f n = g n := by simpa using h
      have : (sm 65536 f (n + 1) < sm 65536 g (n + 1)) ↔ (sm 65536 f n < sm 65536 g n) := by
        simp only [sm, he]; omega
      simp only [this]
      exact ih
theorem p37 {f g : Nat → Int} (hf : isD f) (hg : isD g) : PureOK Try.prog 37 [.rows [.int .u32 f] 16, .rows [.int .u32 g] 16] (.b (decide (V f < V g))) := by
  refine pure_of_envL mixed (t := []) (fun x h => nomatch h) (fn := Try.f37) (by kernel_rfl) (by kernel_rfl) rfl [16] RG [] told_none ⟨trivial, trivial, trivial⟩ trivial ?_
  rw [val37]
  exact belowT_holds hf hg 16 (by omega)

/-! ### prime -/
def chain : Nat → Nat → Int
  | 0 => fun _ => 0
  | k + 1 => fun q => if q = k then 65535 else chain k q
def primeF : Nat → Int := fun q => if q = 15 then 32767 else if q = 0 then 65517 else chain 16 q
def primeT : Nat → Nat → R AV
  | 0, _ => .req (0 < 16) (.req (15 < 16) (.req (0 + 16 ≤ 16) (.req (0 = 0) (.ret (.rows [.int .u32 primeF] 16)))))
  | k + 1, i => .req (i < 16) (primeT k (i + 1))
theorem val38 : evalVal (envL Try.prog [] Try.f38.ntmps [] 0 RG []) Try.f38 [] = primeT 16 0 := by kernel_rfl
theorem prime_dig : ∀ q, q < 16 → primeF q = dig 65536 p q := by decide +kernel
theorem p38 : PureOK Try.prog 38 [] (D p) := by
  refine PureOK.rows_congr (g := primeF) ?_ prime_dig
  refine pure_of_envL mixed (t := []) (fun x h => nomatch h) (fn := Try.f38) (by kernel_rfl) (by kernel_rfl) rfl [] RG [] told_none trivial trivial ?_
  rw [val38]
  have : ∀ k i, k + i ≤ 16 → (primeT k i).holds (· = .rows [.int .u32 primeF] 16) := by
    intro k
    induction k with
    | zero => intro i _; exact ⟨by omega, by omega, by omega, rfl, rfl⟩
    | succ k ih => intro i h; exact ⟨by omega, ih (i + 1) (by omega)⟩
  exact this 16 0 (by omega)

/-! ### Odd, Small -/
theorem val16 (f : Nat → Int) : evalVal (envL Try.prog [] Try.f16.ntmps [] 0 RG []) Try.f16 [.rows [.int .u32 f] 16] = .req (0 < 16) (.ret (.b ((f 0).tmod 2 == 1))) := by kernel_rfl
theorem p16 {f : Nat → Int} (hf : isD f) : PureOK Try.prog 16 [.rows [.int .u32 f] 16] (.b (decide (V f % 2 = 1))) := by
  refine pure_of_envL mixed (t := []) (fun x h => nomatch h) (fn := Try.f16) (by kernel_rfl) (by kernel_rfl) rfl [] RG [] told_none ⟨trivial, trivial⟩ trivial ?_
  rw [val16]
  refine ⟨by omega, ?_⟩
  have h0 := dig_V hf (q := 0) (by omega)
  have : dig 65536 (V f) 0 = V f % 65536 := by simp [dig]
  rw [h0, this, Int.tmod_eq_emod_of_nonneg (by omega)]
  show AV.b _ = AV.b _
  congr 1
  rw [Bool.eq_iff_iff]
  simp only [beq_iff_eq, decide_eq_true_eq]
  omega
def smallF (n : Int) : Nat → Int := nthI (.i .u32 (iAnd .u32 n 65535) :: .i .u32 (iShr .u32 n 16) :: List.replicate 14 (.i .u32 0))
theorem val18 (n : Int) : evalVal (envL Try.prog [] Try.f18.ntmps [] 0 RG []) Try.f18 [.i .u32 n] = .req (0 = 0) (.ret (.rows [.int .u32 (smallF n)] 16)) := by kernel_rfl
theorem smallF_dig {n : Int} (h0 : 0 ≤ n) (h1 : n < 4294967296) : ∀ q, q < 16 → smallF n q = dig 65536 n q := by
  intro q hq
  have e2 : ∀ k, dig 65536 n (k + 2) = 0 := fun k => by
    unfold dig
    have : n / 65536 ^ (k + 2) = 0 := by
      refine Int.ediv_eq_zero_of_lt h0 ?_
      have h2 : (0 : Int) < 65536 ^ k := pw (by omega) k
      rw [show (65536 : Int) ^ (k + 2) = 65536 ^ k * 4294967296 by rw [Int.pow_add]; rfl]
      have := Int.mul_le_mul_of_nonneg_right (show (1 : Int) ≤ 65536 ^ k by omega) (show (0 : Int) ≤ 4294967296 by omega)
      omega
    rw [this]; rfl
  match q, hq with
  | 0, _ => show iAnd .u32 n 65535 = _; rw [and32 h0 h1]; simp [dig]
  | 1, _ => show iShr .u32 n 16 = _; rw [shr32]; simp [dig]; omega
  | q + 2, hq =>
    rw [e2]
    show nthI (List.replicate 14 (.i .u32 0)) q = 0
    have : ∀ q, q < 14 → nthI (List.replicate 14 (.i .u32 0)) q = 0 := by decide
    exact this q (by omega)
theorem p18 {n : Int} (h0 : 0 ≤ n) (h1 : n < 4294967296) : PureOK Try.prog 18 [.i .u32 n] (D n) := by
  refine PureOK.rows_congr (g := smallF n) ?_ (smallF_dig h0 h1)
  refine pure_of_envL mixed (t := []) (fun x h => nomatch h) (fn := Try.f18) (by kernel_rfl) (by kernel_rfl) rfl [] RG [] told_none ⟨trivial, trivial⟩ trivial ?_
  rw [val18]
  exact ⟨rfl, rfl⟩
end Go.Rf
